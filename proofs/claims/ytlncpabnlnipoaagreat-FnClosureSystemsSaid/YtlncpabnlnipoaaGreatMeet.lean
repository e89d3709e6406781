
/- Walks that gather lists of their own: meets, identities, clones. -/
import Derived.Test.YtlncpabnlnipoaaGreatSets
namespace Go.Proofs.YtlncpabnlnipoaaGreat
open Go.RowKit

/-- The members of a list that stand in another. -/
def meetL (ys : List Int) : List Int → List Int
  | [] => []
  | x :: l => if hasI x ys then x :: meetL ys l else meetL ys l
theorem meetL_len (ys : List Int) : ∀ xs, (meetL ys xs).length ≤ xs.length
  | [] => Nat.le_refl _
  | x :: l => by have := meetL_len ys l; rw [meetL]; split <;> simp <;> omega
theorem ints_snoc (xs : List Int) (x : Int) : ints (xs ++ [x]) = ints xs ++ [.int .i64 x] := by simp [ints]
/-- A list being gathered in a row of the call's own. -/
def Gat (B : Nat) (w wr : World) (v : Value) (m : Nat) (acc : List Int) : Prop := ∃ A c, v = .slice A m c ∧ acc.length = m ∧ wr.ownsRow B 3 1 (.slice A m c) m (ints acc) ∧ Below B w wr

set_option maxHeartbeats 400000 in
theorem meetLists_any (A B : Option Addr) (n m c d : Nat) (xs ys : List Int) (w : World) (h : RdL RI w A n xs) (h' : RdL RI w B m ys) (hn : n ≤ 1048576) :
    Calls Tryz.prog 40 #[.slice A n c, .slice B m d] w fun e w' => ∃ A' n' c', e = .returned (.slice A' n' c') ∧ w'.ownsRow w.heap.size 3 1 (.slice A' n' c') n' (ints (meetL ys xs)) ∧ Below w.heap.size w w' := by
  have hle := h.le
  go_enter Tryz.func40, Tryz.ntmps40
  go_wp2
  go_loopw [5, 11] (fun v i wr => ∃ (k m : Nat) (acc : List Int), k ≤ n ∧ m ≤ k ∧ i = .int .i64 k ∧ Acc (meetL ys) xs k acc ∧ Gat w.heap.size w wr v m acc) (fun _ i _ => n - (intOf i).toNat)
  case atStart => exact ⟨0, 0, [], Nat.zero_le _, Nat.le_refl _, rfl, rfl, _, _, rfl, rfl, World.ownsRow_lit _ _ _ (Nat.le_refl _) (Nat.zero_le _) rfl, below_box _ _⟩
  case round =>
    obtain ⟨k, m', acc, hk, hmk, rfl, H, A', c', rfl, hacc, hown, hT⟩ := hrel
    replace h := h.next stab_RI hT
    replace h' := h'.next stab_RI hT
    by_cases hlt : k < n
    · obtain ⟨b, o, v, x, rfl, hc, ⟨rfl, -⟩, hd, -⟩ := h.at hlt
      have H1 := Lib.hid hd
      have HA := Lib.hid hacc
      clear hd hacc
      have hbase := hT.size
      go_wp2_with (first | (go_at_call 66; refine (hasNot_any _ _ _ _ _ _ h').mono ?_; rintro e w' ⟨rfl, rfl⟩) | (at_builtin; refine app1 wr rfl _ _ 25 3 rfl (.int .i64 0) 8 Tryz.underlying25 info_int rfl (by decide) w.heap.size m' c' A' (ints acc) rfl hown (.int .i64 x) rfl rfl (by omega) hbase ?_; intro A2 c2 w2 hown2 hg2 hb2))
      · have hin : hasI x ys = true := (by first | assumption | exact bt2 (by assumption) | exact net (by assumption) | exact netc (by assumption) | exact eqc (by assumption))
        go_roundw
        case rel => exact ⟨k + 1, m' + 1, acc ++ [x], by omega, by omega, by go_num, H.keep H1.out (by rw [meetL, if_pos hin]), A2, c2, rfl, by simp [HA.out], by rw [ints_snoc]; exact hown2, hT.trans hb2⟩
        case measure => simp [intOf]; omega
      · have hin : ¬ hasI x ys = true := by rw [show hasI x ys = false from (by first | assumption | exact bf1 (by assumption) | exact bf2 (by assumption) | exact nef (by assumption) | exact nefc (by assumption) | exact eqc (by assumption))]; decide
        go_roundw
        case rel => exact ⟨k + 1, m', acc, by omega, by omega, by go_num, H.skip H1.out (by rw [meetL, if_neg hin]), A', c', rfl, HA.out, hown, hT⟩
        case measure => simp [intOf]; omega
    · go_wp2
      go_ret
      exact ⟨_, _, _, rfl, by rw [← H.done (h.drop_end hlt) rfl]; exact hown, hT⟩

set_option maxHeartbeats 400000 in
theorem l30Meet_any (A B : Option Addr) (n m c d : Nat) (xs ys : List Int) (w : World) (h : RdL RI w A n xs) (h' : RdL RI w B m ys) (hn : n ≤ 1048576) :
    Calls Tryz.prog 44 #[.slice A n c, .slice B m d] w fun e w' => ∃ A' n' c', e = .returned (.slice A' n' c') ∧ w'.ownsRow w.heap.size 3 1 (.slice A' n' c') n' (ints (meetL ys xs)) ∧ Below w.heap.size w w' := by
  have hle := h.le
  go_enter Tryz.func44, Tryz.ntmps44
  go_wp2
  go_loopw [5, 6] (fun v i wr => ∃ (k m : Nat) (acc : List Int), k ≤ n ∧ m ≤ k ∧ i = .int .i64 k ∧ Acc (meetL ys) xs k acc ∧ Gat w.heap.size w wr v m acc) (fun _ i _ => n - (intOf i).toNat)
  case atStart => exact ⟨0, 0, [], Nat.zero_le _, Nat.le_refl _, rfl, rfl, _, _, rfl, rfl, World.ownsRow_lit _ _ _ (Nat.le_refl _) (Nat.zero_le _) rfl, below_box _ _⟩
  case round =>
    obtain ⟨k, m', acc, hk, hmk, rfl, H, A', c', rfl, hacc, hown, hT⟩ := hrel
    replace h := h.next stab_RI hT
    replace h' := h'.next stab_RI hT
    by_cases hlt : k < n
    · obtain ⟨b, o, v, x, rfl, hc, ⟨rfl, -⟩, hd, -⟩ := h.at hlt
      have H1 := Lib.hid hd
      have HA := Lib.hid hacc
      clear hd hacc
      have hbase := hT.size
      go_wp2_with (first | (go_at_call 55; refine (l1Has_any _ _ _ _ _ _ h').mono ?_; rintro e w' ⟨rfl, rfl⟩) | (at_builtin; refine app1 wr rfl _ _ 25 3 rfl (.int .i64 0) 8 Tryz.underlying25 info_int rfl (by decide) w.heap.size m' c' A' (ints acc) rfl hown (.int .i64 x) rfl rfl (by omega) hbase ?_; intro A2 c2 w2 hown2 hg2 hb2))
      · have hin : hasI x ys = true := (by first | assumption | exact bt2 (by assumption) | exact net (by assumption) | exact netc (by assumption) | exact eqc (by assumption))
        go_roundw
        case rel => exact ⟨k + 1, m' + 1, acc ++ [x], by omega, by omega, by go_num, H.keep H1.out (by rw [meetL, if_pos hin]), A2, c2, rfl, by simp [HA.out], by rw [ints_snoc]; exact hown2, hT.trans hb2⟩
        case measure => simp [intOf]; omega
      · have hin : ¬ hasI x ys = true := by rw [show hasI x ys = false from (by first | assumption | exact bf1 (by assumption) | exact bf2 (by assumption) | exact nef (by assumption) | exact nefc (by assumption) | exact eqc (by assumption))]; decide
        go_roundw
        case rel => exact ⟨k + 1, m', acc, by omega, by omega, by go_num, H.skip H1.out (by rw [meetL, if_neg hin]), A', c', rfl, HA.out, hown, hT⟩
        case measure => simp [intOf]; omega
    · go_wp2
      go_ret
      exact ⟨_, _, _, rfl, by rw [← H.done (h.drop_end hlt) rfl]; exact hown, hT⟩

/-- 0, 1, .. n - 1 -/
def upTo (n : Nat) : List Int := (List.range n).map fun (k : Nat) => (k : Int)
theorem upTo_succ (k : Nat) : upTo (k + 1) = upTo k ++ [(k : Int)] := by simp [upTo, List.range_succ]
theorem upTo_len (k : Nat) : (upTo k).length = k := by simp [upTo]
theorem upTo_get {n k : Nat} (h : k < n) : (upTo n)[k]? = some (k : Int) := by simp [upTo, h]

set_option maxHeartbeats 400000 in
theorem l6Identity_any (n : Nat) (w : World) (hn : n ≤ 1048576) :
    Calls Tryz.prog 42 #[.int .i64 n] w fun e w' => ∃ A' c', e = .returned (.slice A' n c') ∧ w'.ownsRow w.heap.size 3 1 (.slice A' n c') n (ints (upTo n)) ∧ Below w.heap.size w w' := by
  go_enter Tryz.func42, Tryz.ntmps42
  go_wp2
  go_loopw [3, 4] (fun v i wr => ∃ (k : Nat), k ≤ n ∧ i = .int .i64 k ∧ Gat w.heap.size w wr v k (upTo k)) (fun _ i _ => n - (intOf i).toNat)
  case atStart => exact ⟨0, Nat.zero_le _, rfl, _, _, rfl, rfl, World.ownsRow_lit _ _ _ (Nat.le_refl _) (Nat.zero_le _) rfl, below_box _ _⟩
  case round =>
    obtain ⟨k, hk, rfl, A', c', rfl, hacc, hown, hT⟩ := hrel
    have hbase := hT.size
    clear hacc
    by_cases hlt : k < n
    · go_wp2_with (at_builtin; refine app1 wr rfl _ _ 25 3 rfl (.int .i64 0) 8 Tryz.underlying25 info_int rfl (by decide) w.heap.size k c' A' (ints (upTo k)) rfl hown (.int .i64 k) rfl rfl (by omega) hbase ?_; intro A2 c2 w2 hown2 hg2 hb2)
      go_roundw
      case rel => exact ⟨k + 1, by omega, by go_num, A2, c2, rfl, upTo_len _, by rw [upTo_succ, ints_snoc]; exact hown2, hT.trans hb2⟩
      case measure => simp [intOf]; omega
    · obtain rfl : k = n := by omega
      go_wp2
      go_ret
      exact ⟨_, _, rfl, hown, hT⟩

set_option maxHeartbeats 400000 in
theorem identityOf_any (n : Nat) (w : World) (hn : n ≤ 1048576) :
    Calls Tryz.prog 38 #[.int .i64 n] w fun e w' => ∃ g, e = .returned (.slice (some ⟨g, 0, none⟩) n n) ∧ w'.ownsRow w.heap.size 3 1 (.slice (some ⟨g, 0, none⟩) n n) n (ints (upTo n)) ∧ Below w.heap.size w w' := by
  go_enter Tryz.func38, Tryz.ntmps38
  go_wp2_with (at_make; refine make_ints _ rfl _ _ rfl n rfl rfl (by omega) ?_; intro w1 hown hg1)
  have hT := (Below.refl w.heap.size w).grown hg1 (Nat.le_refl _) (by simp)
  clear hg1
  have hlen : Hid ((ints (upTo n)).length = n) := by simp [Hid, ints, upTo_len]
  go_loopw [9] (fun i wr => ∃ k : Nat, k ≤ n ∧ i = .int .i64 k ∧ wr.ownsRow w.heap.size 3 1 (.slice (some ⟨w.heap.size, 0, none⟩) n n) n (fillTo (ints (upTo n)) (.int .i64 0) n k) ∧ Below w.heap.size w wr) (fun i _ => n - (intOf i).toNat)
  case atStart => exact ⟨0, Nat.zero_le _, rfl, by rw [fillTo_zero]; exact hown, hT⟩
  case round =>
    clear hown hT
    obtain ⟨k, hk, rfl, hown, hT⟩ := hrel
    by_cases hlt : k < n
    · have hxk : Hid ((ints (upTo n))[k]? = some (.int .i64 k)) := by simp [Hid, ints, upTo_get hlt]
      have hcell : wr.cell? ⟨w.heap.size, k, none⟩ = some (.int .i64 0) := (hown.cellAt k (by omega)).trans (fillTo_get hlen.out hlt)
      have hfz : wr.frozen? ⟨w.heap.size, k, none⟩ = false := hown.frozenAt k
      have hst := (hown.stored k (.int .i64 k)).1
      rw [fillTo_set hlen.out hlt hxk.out] at hst
      go_wp2
      go_roundw
      case rel => exact ⟨k + 1, by omega, by go_num, hst, hT.setCell (Nat.le_refl _) _⟩
      case measure => simp [intOf]; omega
    · rw [fillTo_all _ hlen.out hlt] at hown
      go_wp2
      go_ret
      exact ⟨_, rfl, hown, hT⟩

set_option maxHeartbeats 400000 in
theorem clone_any (A : Option Addr) (n c : Nat) (xs : List Int) (w : World) (h : RdL RI w A n xs) (hn : n ≤ 1048576) :
    Calls Tryz.prog 41 #[.slice A n c] w fun e w' => ∃ A' c', e = .returned (.slice A' n c') ∧ w'.ownsRow w.heap.size 3 1 (.slice A' n c') n (ints xs) ∧ Below w.heap.size w w' := by
  have hT := below_box w (.cells #[] 3)
  have hown : (w.alloc (.cells #[] 3)).ownsRow w.heap.size 3 1 (.slice (some ⟨w.heap.size, 0, none⟩) 0 0) 0 [] := World.ownsRow_lit _ _ _ (Nat.le_refl _) (Nat.zero_le _) rfl
  have h1 := h.next stab_RI hT
  go_enter Tryz.func41, Tryz.ntmps41
  go_wp2_with (at_builtin; refine appAny _ rfl _ _ 25 3 rfl (.int .i64 0) 8 Tryz.underlying25 info_int rfl (by decide) w.heap.size 0 0 (some ⟨w.heap.size, 0, none⟩) [] rfl hown A n c xs (.int .i64) (fun _ => rfl) rfl h1 (fun _ _ _ hr => hr.1) (by omega) hT.size ?_; intro A2 c2 w2 hown2 hg2 hb2)
  go_ret
  refine ⟨A2, c2, by simp, ?_, hT.trans hb2⟩
  simpa [ints] using hown2
end Go.Proofs.YtlncpabnlnipoaaGreat
