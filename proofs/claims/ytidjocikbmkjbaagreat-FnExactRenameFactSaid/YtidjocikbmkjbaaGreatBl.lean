
/- Words for rows of truth values of the call's own, and for a row that is cut. -/
import Derived.Test.YtidjocikbmkjbaaGreatInts
import Derived.Test.YtidjocikbmkjbaaGreatTermP
namespace Go.Proofs.YtidjocikbmkjbaaGreat
open Go.RowKit

def bls (L : List Bool) : List Value := L.map fun b => .bool b
theorem bls_len (L : List Bool) : (bls L).length = L.length := by simp [bls]
theorem bls_get {L : List Bool} {y : Nat} (h : y < L.length) : (bls L)[y]? = some (.bool (gB L y)) := by unfold bls; rw [List.getElem?_map, gB_at h]; rfl
theorem bls_set (L : List Bool) (y : Nat) (b : Bool) : (bls L).set y (.bool b) = bls (L.set y b) := by simp [bls, List.map_set]
theorem bls_rep (n : Nat) : bls (List.replicate n false) = List.replicate n (.bool false) := by simp [bls]
theorem info_bl : (Tryz.prog.info? 4).map (fun i => (i.zero, i.size, i.bytes)) = some (some (.bool false), 1, 1) := by kernel_rfl
theorem make_bl (w : World) {ops : Array Oper} {rest : List Oper} {o : Oper} {a : Act} {Q : Exit → Act → World → Prop} (hg : o.guard = none) (l c : Operand) (hop : o.op = Op.makeSlice 78 l c)
    (n : Nat) (hl : a.eval l = .int .i64 n) (hc : a.eval c = .int .i64 n) (b : n ≤ 17592186044416)
    (hK : ∀ w', w'.ownsRow w.heap.size 4 1 (.slice (some ⟨w.heap.size, 0, none⟩) n n) n (bls (List.replicate n false)) → w.grownBy w' none → wpList Tryz.prog ops Q rest (a.put o.dst (.slice (some ⟨w.heap.size, 0, none⟩) n n)) w') :
    wpList Tryz.prog ops Q (o :: rest) a w := by
  obtain ⟨i0, hi, hz0, hz1, hz2⟩ := info_parts info_bl
  refine wpList_make_full w hg l c 78 hop w.heap.size 4 i0 (.bool false) 1 Tryz.underlying78 hi hz0 hz1 .i64 .i64 n n n hl hc rfl rfl (by rw [hz2]; omega) (by unfold maxLen; omega) (Nat.le_refl _) ?_
  intro w' h1 h2
  refine hK w' ?_ h2
  have e : (madeCells (Value.bool false).cells (n * 1)).toList = List.replicate n (.bool false) := by rw [Nat.mul_one]; exact toList_madeCells_one (.bool false) n
  rw [bls_rep, ← e]
  exact h1
/-- The first k of a row of the call's own. -/
theorem own_take {w : World} {base : Nat} {e : TypeId} {A : Option Addr} {n c k : Nat} {xs : List Value} (h : w.ownsRow base e 1 (.slice A n c) n xs) (hk : k ≤ n) : w.ownsRow base e 1 (.slice A k c) k (xs.take k) := by
  obtain ⟨h1, h2⟩ := h
  refine ⟨by rw [List.length_take]; omega, ?_⟩
  rcases h2 with ⟨h2, h3⟩ | ⟨g, cap, cur, hv, hb, hg, hnc, hcm, hcs, ht⟩
  · left
    injection h2 with e1 e2 e3
    subst e1
    subst e3
    obtain rfl : k = 0 := by omega
    exact ⟨rfl, rfl⟩
  · right
    injection hv with e1 e2 e3
    subst e1
    subst e3
    refine ⟨g, _, cur, rfl, hb, hg, by omega, hcm, hcs, ?_⟩
    rw [← ht, List.take_take]
    congr 1
    omega
end Go.Proofs.YtidjocikbmkjbaaGreat
namespace Go.Proofs.YtidjocikbmkjbaaGreat
open Go.RowKit
set_option linter.unusedVariables false

/-- The marked numbers as a list of the call's own. -/
def OwI (w : World) (L : List Int) (e : Ending) (w' : World) : Prop := ∃ A c, e = .returned (.slice A L.length c) ∧ w'.ownsRow w.heap.size 3 1 (.slice A L.length c) L.length (ints L) ∧ Below w.heap.size w w'
theorem OwI.rd {w w' : World} {L : List Int} {e : Ending} (h : OwI w L e w') (hb : ∀ v ∈ L, -9223372036854775808 ≤ v ∧ v ≤ 9223372036854775807) : ∃ A c, e = .returned (.slice A L.length c) ∧ RdL RI w' A L.length L ∧ Below w.heap.size w w' := by
  obtain ⟨A, c, h1, h2, h3⟩ := h
  exact ⟨A, c, h1, rd_of_own (R := RI) h2 (RI_ints hb), h3⟩
theorem markL_bd (n : Nat) (M : Nat → Bool) (hn : n ≤ 1048576) : ∀ v ∈ markL n M, -9223372036854775808 ≤ v ∧ v ≤ 9223372036854775807 := fun v hv => by
  have := markL_in v hv
  omega
set_option maxHeartbeats 1000000 in
theorem marked_any (A : Option Addr) (n c : Nat) (L : List Bool) (w : World) (h : RdL RB w A n L) (hn : n ≤ 1000) :
    Calls Tryz.prog 93 #[.slice A n c] w (OwI w (markL n (gB L))) := by
  have hT := below_box w (.cells #[] 3)
  have hlen := Lib.hid h.len
  go_enter Tryz.func93, Tryz.ntmps93
  go_wp2_with fail
  go_loopw [3, 4, 5, 9] (fun s _ _ i wr => ∃ (k m : Nat) (A1 : Option Addr) (c1 : Nat), k ≤ n ∧ i = .int .i64 k ∧ s = .slice A1 m c1 ∧ m = (markL k (gB L)).length ∧ wr.ownsRow w.heap.size 3 1 (.slice A1 m c1) m (ints (markL k (gB L))) ∧ Below w.heap.size w wr) (fun _ _ _ i _ => n - (intOf i).toNat)
  case atStart => exact ⟨0, 0, some ⟨w.heap.size, 0, none⟩, 0, Nat.zero_le _, rfl, rfl, rfl, World.ownsRow_lit w #[] 0 (Nat.le_refl _) (Nat.zero_le _) rfl, hT⟩
  case round =>
    obtain ⟨k, m, A1, c1, hk, rfl, rfl, hm, hown, hTr⟩ := hrel
    have hmk : m ≤ k := by rw [hm]; exact markL_le k (gB L)
    by_cases hlt : k < n
    · have hk0 : (0 : Int) ≤ (k : Int) := by omega
      have hk1 : (k : Int) < (n : Int) := by omega
      obtain ⟨b, o, u, v, rfl, hc, rfl, -, hx⟩ := (h.next stab_RB hTr).at hlt
      have HG := Lib.hid (gB_get hx)
      have HS := Lib.hid (markL_succ k (gB L))
      rw [HG.out] at HS
      have HMM := Lib.hid hm
      clear hx hm
      rcases v with _ | _
      · go_wp2_with fail
        go_roundw
        case rel => exact ⟨k + 1, m, A1, c1, by omega, by go_num, rfl, by rw [HS.out]; simpa using HMM.out, by rw [HS.out]; simpa using hown, hTr⟩
        case measure => simp [intOf]; omega
      · have hsz := hTr.size
        go_wp2_with (at_builtin; refine app1 wr rfl _ _ 25 3 rfl (.int .i64 0) 8 Tryz.underlying25 info_int rfl (by decide) w.heap.size m c1 A1 (ints (markL k (gB L))) rfl hown (.int .i64 (k : Int)) rfl rfl (by omega) (by omega) ?_; intro A2 c2 w2 hown2 hg2 hb2)
        go_roundw
        case rel => exact ⟨k + 1, m + 1, A2, c2, by omega, by go_num, rfl, by rw [HS.out]; simpa using HMM.out, by rw [HS.out]; simpa [ints] using hown2, hTr.trans hb2⟩
        case measure => simp [intOf]; omega
    · have hk1 : ¬ (k : Int) < (n : Int) := by omega
      obtain rfl : k = n := by omega
      have HMM := Lib.hid hm
      clear hm
      go_wp2_with fail
      go_ret
      exact ⟨A1, c1, by rw [HMM.out]; rfl, by rw [← HMM.out]; exact hown, hTr⟩
end Go.Proofs.YtidjocikbmkjbaaGreat
