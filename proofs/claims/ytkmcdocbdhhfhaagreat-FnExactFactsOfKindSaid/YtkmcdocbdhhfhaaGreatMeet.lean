
/- Walks that gather lists of their own: meets, identities, clones. -/
import Derived.Test.YtkmcdocbdhhfhaaGreatSets
namespace Go.Proofs.YtkmcdocbdhhfhaaGreat
open Go.RowKit

/-- The members of a list that stand in another. -/
def meetL (ys : List Int) : List Int → List Int
  | [] => []
  | x :: l => if hasI x ys then x :: meetL ys l else meetL ys l
theorem meetL_len (ys : List Int) : ∀ xs, (meetL ys xs).length ≤ xs.length
  | [] => Nat.le_refl _
  | x :: l => by have := meetL_len ys l; rw [meetL]; split <;> simp <;> omega
theorem ints_snoc (xs : List Int) (x : Int) : ints (xs ++ [x]) = ints xs ++ [.int .i64 x] := by simp [ints]
/-- A list being gathered in a row of the call's own. -/
def Gat (B : Nat) (w wr : World) (v : Value) (m : Nat) (acc : List Int) : Prop := ∃ A c, v = .slice A m c ∧ acc.length = m ∧ wr.ownsRow B 3 1 (.slice A m c) m (ints acc) ∧ Below B w wr

/-- 0, 1, .. n - 1 -/
def upTo (n : Nat) : List Int := (List.range n).map fun (k : Nat) => (k : Int)
theorem upTo_succ (k : Nat) : upTo (k + 1) = upTo k ++ [(k : Int)] := by simp [upTo, List.range_succ]
theorem upTo_len (k : Nat) : (upTo k).length = k := by simp [upTo]
theorem upTo_get {n k : Nat} (h : k < n) : (upTo n)[k]? = some (k : Int) := by simp [upTo, h]

set_option maxHeartbeats 400000 in
theorem clone_any (A : Option Addr) (n c : Nat) (xs : List Int) (w : World) (h : RdL RI w A n xs) (hn : n ≤ 1048576) :
    Calls Tryz.prog 100 #[.slice A n c] w fun e w' => ∃ A' c', e = .returned (.slice A' n c') ∧ w'.ownsRow w.heap.size 3 1 (.slice A' n c') n (ints xs) ∧ Below w.heap.size w w' := by
  have hT := below_box w (.cells #[] 3)
  have hown : (w.alloc (.cells #[] 3)).ownsRow w.heap.size 3 1 (.slice (some ⟨w.heap.size, 0, none⟩) 0 0) 0 [] := World.ownsRow_lit _ _ _ (Nat.le_refl _) (Nat.zero_le _) rfl
  have h1 := h.next stab_RI hT
  go_enter Tryz.func100, Tryz.ntmps100
  go_wp2_with (at_builtin; refine appAny _ rfl _ _ 39 3 rfl (.int .i64 0) 8 Tryz.underlying39 info_int rfl (by decide) w.heap.size 0 0 (some ⟨w.heap.size, 0, none⟩) [] rfl hown A n c xs (.int .i64) (fun _ => rfl) rfl h1 (fun _ _ _ hr => hr.1) (by omega) hT.size ?_; intro A2 c2 w2 hown2 hg2 hb2)
  go_ret
  refine ⟨A2, c2, by simp, ?_, hT.trans hb2⟩
  simpa [ints] using hown2
end Go.Proofs.YtkmcdocbdhhfhaaGreat
