
/- Walks: the digits of an index, the index of digits, copies of lists. -/
import Derived.Test.YtkmcdocbdhhfhaaGreatRenP
namespace Go.Proofs.YtkmcdocbdhhfhaaGreat
open Go.RowKit

def nats (l : List Nat) : List Int := l.map fun (d : Nat) => (d : Int)
theorem nats_len (l : List Nat) : (nats l).length = l.length := by simp [nats]
/-- p places still to be laid; cur is what is left of the index. -/
def DgAt (n k i p cur : Nat) (L : List Int) : Prop := ∃ tl : List Nat, digs n k i = digs n p cur ++ tl ∧ L = List.replicate p 0 ++ nats tl ∧ p + tl.length = k ∧ cur ≤ i
theorem DgAt.start (n k i : Nat) : DgAt n k i k i (List.replicate k 0) := ⟨[], by simp, by simp [nats], rfl, Nat.le_refl _⟩
theorem DgAt.step {n k i p cur : Nat} {L : List Int} (h : DgAt n k i (p + 1) cur L) : DgAt n k i p (cur / n) (L.set p ((cur % n : Nat) : Int)) := by
  obtain ⟨tl, h1, rfl, h3, h4⟩ := h
  refine ⟨(cur % n) :: tl, by rw [h1, digs]; simp, ?_, by simp; omega, Nat.le_trans (Nat.div_le_self _ _) h4⟩
  rw [show List.replicate (p + 1) (0 : Int) = List.replicate p 0 ++ [0] by rw [List.replicate_succ'], List.append_assoc, List.set_append_right _ _ (by simp)]
  simp [nats]
theorem DgAt.done {n k i cur : Nat} {L : List Int} (h : DgAt n k i 0 cur L) : L = nats (digs n k i) := by
  obtain ⟨tl, h1, rfl, h3, -⟩ := h
  rw [h1, digs]
  simp
theorem ints_set (l : List Int) (p : Nat) (v : Int) : (ints l).set p (.int .i64 v) = ints (l.set p v) := by simp [ints, List.map_set]
theorem ints_rep (n : Nat) : ints (List.replicate n 0) = List.replicate n (.int .i64 0) := by simp [ints]
theorem ints_len (l : List Int) : (ints l).length = l.length := by simp [ints]

theorem w64 {x : Nat} (h : x ≤ 1048576) : wrap64 (x : Int) = x := by unfold wrap64; omega
set_option maxHeartbeats 1000000 in
theorem argsAt_any (i k n : Nat) (w : World) (hn : 0 < n) (hn8 : n ≤ 1048576) (hk : k ≤ 1048576) (hi : i ≤ 1048576) :
    Calls Tryz.prog 126 #[.int .i64 i, .int .i64 k, .int .i64 n] w fun e w' => ∃ g, e = .returned (.slice (some ⟨g, 0, none⟩) k k) ∧ w'.ownsRow w.heap.size 3 1 (.slice (some ⟨g, 0, none⟩) k k) k (ints (nats (digs n k i))) ∧ Below w.heap.size w w' := by
  go_enter Tryz.func126, Tryz.ntmps126
  go_wp2_with (at_make; refine make_ints _ rfl _ _ rfl k rfl rfl (by omega) ?_; intro w1 hown hg1)
  have hT := (Below.refl w.heap.size w).grown hg1 (Nat.le_refl _) (by simp)
  clear hg1
  go_loopw [0, 8] (fun c j wr => ∃ (p cur : Nat) (L : List Int), p ≤ k ∧ c = .int .i64 cur ∧ j = .int .i64 ((p : Int) - 1) ∧ Hid (DgAt n k i p cur L) ∧ cur ≤ 1048576 ∧ wr.ownsRow w.heap.size 3 1 (.slice (some ⟨w.heap.size, 0, none⟩) k k) k (ints L) ∧ Below w.heap.size w wr) (fun _ j _ => (intOf j + 1).toNat)
  case atStart => exact ⟨k, i, List.replicate k 0, Nat.le_refl _, rfl, by go_num, DgAt.start _ _ _, by omega, by rw [ints_rep]; exact hown, hT⟩
  case round =>
    clear hown hT
    obtain ⟨p, cur, L, hp, rfl, rfl, HD, hc, hown, hT⟩ := hrel
    rcases p with _ | p
    · have hl : Hid (L = nats (digs n k i)) := HD.out.done
      have h0 : ¬ (0 : Int) ≤ ((0 : Nat) : Int) - 1 := by omega
      go_wp2
      go_ret
      exact ⟨_, rfl, by rw [← hl.out]; exact hown, hT⟩
    · have h0 : (0 : Int) ≤ ((p + 1 : Nat) : Int) - 1 := by omega
      have hp0 : (0 : Int) ≤ (p : Int) := by omega
      have hp1 : (p : Int) < (k : Int) := by omega
      have HS : Hid (DgAt n k i p (cur / n) (L.set p ((cur % n : Nat) : Int))) := HD.out.step
      have e1 : ((p + 1 : Nat) : Int) - 1 = (p : Int) := by omega
      have hLl : p < (ints L).length := by have := hown.1; omega
      have hcell : wr.cell? ⟨w.heap.size, p, none⟩ = some ((ints L)[p]) := (hown.cellAt p (by omega)).trans (List.getElem?_eq_getElem hLl)
      have hfz : wr.frozen? ⟨w.heap.size, p, none⟩ = false := hown.frozenAt p
      have hst := (hown.stored p (.int .i64 ((cur % n : Nat) : Int))).1
      rw [ints_set] at hst
      have hnz : ¬ (n : Int) = 0 := by omega
      have hcd : cur / n ≤ 1048576 := Nat.le_trans (Nat.div_le_self _ _) hc
      have HQ : Hid (wrap64 ((cur : Int) / (n : Int)) = ((cur / n : Nat) : Int)) := by
        show _ = _
        have e : (cur : Int) / (n : Int) = ((cur / n : Nat) : Int) := by simp
        rw [e]
        exact w64 hcd
      rw [e1]
      clear h0 e1
      go_wp2
      go_roundw
      case rel => exact ⟨p, cur / n, _, by omega, by rw [HQ.out], by go_num, HS, hcd, hst, hT.setCell (Nat.le_refl _) _⟩
      case measure => simp [intOf]; try omega
set_option maxHeartbeats 1000000 in
theorem l2Args_any (i k n : Nat) (w : World) (hn : 0 < n) (hn8 : n ≤ 1048576) (hk : k ≤ 1048576) (hi : i ≤ 1048576) :
    Calls Tryz.prog 131 #[.int .i64 n, .int .i64 k, .int .i64 i] w fun e w' => ∃ g, e = .returned (.slice (some ⟨g, 0, none⟩) k k) ∧ w'.ownsRow w.heap.size 3 1 (.slice (some ⟨g, 0, none⟩) k k) k (ints (nats (digs n k i))) ∧ Below w.heap.size w w' := by
  go_enter Tryz.func131, Tryz.ntmps131
  go_wp2_with (at_make; refine make_ints _ rfl _ _ rfl k rfl rfl (by omega) ?_; intro w1 hown hg1)
  have hT := (Below.refl w.heap.size w).grown hg1 (Nat.le_refl _) (by simp)
  clear hg1
  go_loopw [2, 8] (fun c j wr => ∃ (p cur : Nat) (L : List Int), p ≤ k ∧ c = .int .i64 cur ∧ j = .int .i64 ((p : Int) - 1) ∧ Hid (DgAt n k i p cur L) ∧ cur ≤ 1048576 ∧ wr.ownsRow w.heap.size 3 1 (.slice (some ⟨w.heap.size, 0, none⟩) k k) k (ints L) ∧ Below w.heap.size w wr) (fun _ j _ => (intOf j + 1).toNat)
  case atStart => exact ⟨k, i, List.replicate k 0, Nat.le_refl _, rfl, by go_num, DgAt.start _ _ _, by omega, by rw [ints_rep]; exact hown, hT⟩
  case round =>
    clear hown hT
    obtain ⟨p, cur, L, hp, rfl, rfl, HD, hc, hown, hT⟩ := hrel
    rcases p with _ | p
    · have hl : Hid (L = nats (digs n k i)) := HD.out.done
      have h0 : ¬ (0 : Int) ≤ ((0 : Nat) : Int) - 1 := by omega
      go_wp2
      go_ret
      exact ⟨_, rfl, by rw [← hl.out]; exact hown, hT⟩
    · have h0 : (0 : Int) ≤ ((p + 1 : Nat) : Int) - 1 := by omega
      have hp0 : (0 : Int) ≤ (p : Int) := by omega
      have hp1 : (p : Int) < (k : Int) := by omega
      have HS : Hid (DgAt n k i p (cur / n) (L.set p ((cur % n : Nat) : Int))) := HD.out.step
      have e1 : ((p + 1 : Nat) : Int) - 1 = (p : Int) := by omega
      have hLl : p < (ints L).length := by have := hown.1; omega
      have hcell : wr.cell? ⟨w.heap.size, p, none⟩ = some ((ints L)[p]) := (hown.cellAt p (by omega)).trans (List.getElem?_eq_getElem hLl)
      have hfz : wr.frozen? ⟨w.heap.size, p, none⟩ = false := hown.frozenAt p
      have hst := (hown.stored p (.int .i64 ((cur % n : Nat) : Int))).1
      rw [ints_set] at hst
      have hnz : ¬ (n : Int) = 0 := by omega
      have hcd : cur / n ≤ 1048576 := Nat.le_trans (Nat.div_le_self _ _) hc
      have HQ : Hid (wrap64 ((cur : Int) / (n : Int)) = ((cur / n : Nat) : Int)) := by
        show _ = _
        have e : (cur : Int) / (n : Int) = ((cur / n : Nat) : Int) := by simp
        rw [e]
        exact w64 hcd
      rw [e1]
      clear h0 e1
      go_wp2
      go_roundw
      case rel => exact ⟨p, cur / n, _, by omega, by rw [HQ.out], by go_num, HS, hcd, hst, hT.setCell (Nat.le_refl _) _⟩
      case measure => simp [intOf]; try omega

theorem l1Own_any (A : Option Addr) (n c : Nat) (xs : List Int) (w : World) (h : RdL RI w A n xs) (hn : n ≤ 1048576) :
    Calls Tryz.prog 113 #[.slice A n c] w fun e w' => ∃ A' c', e = .returned (.slice A' n c') ∧ w'.ownsRow w.heap.size 3 1 (.slice A' n c') n (ints xs) ∧ Below w.heap.size w w' := by
  have hT := below_box w (.cells #[] 3)
  have hown : (w.alloc (.cells #[] 3)).ownsRow w.heap.size 3 1 (.slice (some ⟨w.heap.size, 0, none⟩) 0 0) 0 [] := World.ownsRow_lit _ _ _ (Nat.le_refl _) (Nat.zero_le _) rfl
  have h1 := h.next stab_RI hT
  go_enter Tryz.func113, Tryz.ntmps113
  go_wp2_with (at_builtin; refine appAny _ rfl _ _ 39 3 rfl (.int .i64 0) 8 Tryz.underlying39 info_int rfl (by decide) w.heap.size 0 0 (some ⟨w.heap.size, 0, none⟩) [] rfl hown A n c xs (.int .i64) (fun _ => rfl) rfl h1 (fun _ _ _ hr => hr.1) (by omega) hT.size ?_; intro A2 c2 w2 hown2 hg2 hb2)
  go_ret
  refine ⟨A2, c2, by simp, ?_, hT.trans hb2⟩
  simpa [ints] using hown2

/-- The index of a list of digits. -/
theorem idx_take {n : Nat} {l : List Nat} {k d : Nat} (h : l[k]? = some d) : idx n (l.take (k + 1)) = idx n (l.take k) * n + d := by
  rw [List.take_add_one, h]
  exact idx_snoc _ _ _
theorem nats_get {l : List Nat} {k : Nat} {v : Int} (h : (nats l)[k]? = some v) : ∃ d : Nat, l[k]? = some d ∧ v = d := by
  unfold nats at h
  rw [List.getElem?_map] at h
  rcases e : l[k]? with _ | d
  · rw [e] at h; simp at h
  · rw [e] at h
    simp at h
    exact ⟨d, rfl, h.symm⟩
theorem idx_small {n : Nat} (hn : n ≤ 8) {l : List Nat} (hl : l.length ≤ 4) (hd : ∀ d ∈ l, d < n) : idx n l < 4096 + 1 := by
  have := idx_lt l.length l rfl hd
  have h2 := pow_bd hn hl
  omega
end Go.Proofs.YtkmcdocbdhhfhaaGreat
