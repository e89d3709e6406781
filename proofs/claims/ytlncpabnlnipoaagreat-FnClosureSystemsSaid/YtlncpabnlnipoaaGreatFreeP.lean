
/- Plain laws for FreeSets of the reference: a mask less one of its bits. -/
import Derived.Test.YtlncpabnlnipoaaGreatFree
namespace Go.Proofs.YtlncpabnlnipoaaGreat
open Go.RowKit

theorem bits_less : ∀ k, k < 64 → ∀ i, i < (bitsTo k 6).length → bitsTo (k - 2 ^ ((bitsTo k 6).getD i 0).toNat) 6 = (bitsTo k 6).take i ++ (bitsTo k 6).drop (i + 1) := by decide +kernel
theorem bits_andNot : ∀ k : Nat, k < 64 → ∀ i, i < (bitsTo k 6).length → bits .andNot .i64 (k : Int) (2 ^ ((bitsTo k 6).getD i 0).toNat) = ((k - 2 ^ ((bitsTo k 6).getD i 0).toNat : Nat) : Int) := by decide +kernel
theorem frees_mem {S : List (List Int)} : ∀ {k : Nat}, k ≤ 64 → ∀ x ∈ frees S k, ∃ j, j < k ∧ x = bitsTo j 6
  | 0, _, x, hx => by simp [frees] at hx
  | k + 1, hk, x, hx => by
    rw [frees, List.mem_append] at hx
    rcases hx with hx | hx
    · obtain ⟨j, h1, h2⟩ := frees_mem (by omega) x hx
      exact ⟨j, by omega, h2⟩
    · split at hx
      · exact ⟨k, by omega, List.mem_singleton.1 hx⟩
      · simp at hx
theorem bits_inj : ∀ a, a < 64 → ∀ b, b < 64 → bitsTo a 6 = bitsTo b 6 → a = b := by decide +kernel
/-- The reference's list: each free set put in its place. -/
def frI (S : List (List Int)) : Nat → List (List Int)
  | 0 => []
  | m + 1 => if freeB S (bitsTo m 6) then insT (bitsTo m 6) (frI S m) else frI S m
theorem frI_mem {S : List (List Int)} : ∀ (m : Nat) (p : List Int), p ∈ frI S m ↔ p ∈ frees S m
  | 0, p => by simp [frI, frees]
  | m + 1, p => by
    rw [frI, frees]
    split
    · rw [mem_insT, frI_mem m p, List.mem_append, List.mem_singleton]
      exact Or.comm
    · rw [frI_mem m p, List.append_nil]
theorem frI_srt {S : List (List Int)} : ∀ m, m ≤ 64 → Srt (frI S m)
  | 0, _ => List.Pairwise.nil
  | m + 1, hm => by
    have ih := frI_srt (S := S) m (by omega)
    rw [frI]
    split
    · refine ih.insT fun h => ?_
      obtain ⟨j, h1, h2⟩ := frees_mem (by omega) _ ((frI_mem m _).1 h)
      have := bits_inj m (by omega) j (by omega) h2
      omega
    · exact ih
theorem frees_nodup (S : List (List Int)) : ∀ m, m ≤ 64 → (frees S m).Nodup
  | 0, _ => List.nodup_nil
  | m + 1, hm => by
    have inj : ∀ a, a < 64 → ∀ b, b < 64 → bitsTo a 6 = bitsTo b 6 → a = b := by decide +kernel
    have mem : ∀ k, k ≤ 64 → ∀ x ∈ frees S k, ∃ j, j < k ∧ x = bitsTo j 6 := fun k => by
      induction k with
      | zero => intro _ x hx; simp [frees] at hx
      | succ k ih =>
        intro hk x hx
        rw [frees, List.mem_append] at hx
        rcases hx with hx | hx
        · obtain ⟨j, h1, h2⟩ := ih (by omega) x hx
          exact ⟨j, by omega, h2⟩
        · split at hx
          · exact ⟨k, by omega, List.mem_singleton.1 hx⟩
          · simp at hx
    rw [frees, List.nodup_append]
    refine ⟨frees_nodup S m (by omega), ?_, fun a ha b hb e => ?_⟩
    · split <;> simp
    · split at hb
      · rw [List.mem_singleton.1 hb] at e
        obtain ⟨j, h1, h2⟩ := mem m (by omega) a ha
        have := inj j (by omega) m (by omega) (by rw [← h2, e])
        omega
      · simp at hb
/-- A sorted list of the free sets is the reference's. -/
theorem fr_fin {S yss : List (List Int)} {m : Nat} (hm : m ≤ 64) (hp : yss.Perm (frees S m)) (hs : yss.Pairwise fun p r => lessT r p = false) : yss = frI S m := by
  have hnd : yss.Nodup := hp.nodup_iff.2 (frees_nodup S m hm)
  have hsrt : Srt yss := by
    refine (hs.and hnd).imp ?_
    intro a b hab
    rcases lessT_total a b with e | e | e
    · exact absurd e hab.2
    · exact e
    · rw [hab.1] at e; cases e
  exact Srt.ext hsrt (frI_srt m hm) fun p => by rw [hp.mem_iff, frI_mem]
/-- FreeSets' answer. -/
def fsRes (n : Int) (S : List (List Int)) : List (List Int) := if sysRes n S then frI S (2 ^ n.toNat) else []
set_option maxHeartbeats 4000000 in
theorem implFS_any (A : Option Addr) (m c : Nat) (n : Int) (S : List (List Int)) (w : World) (h : RdL (RV RI) w A m S) (hm : m ≤ c) (hS : ∀ s ∈ S, s.length ≤ 1048576) :
    Calls Tryz.prog 19 #[.int .i64 n, .slice A m c] w (OwnMB w (fsRes n S) (sysRes n S)) := by
  rcases h1 : sysRes n S with _ | _
  · have HC := Lib.hid (hasSystem_any A m c S n w h hm hS)
    have HR := Lib.hid h1
    have HF : Hid (fsRes n S = []) := by show _ = _; unfold fsRes; rw [h1]; rfl
    clear h1
    go_enter Tryz.func19, Tryz.ntmps19
    go_wp2_with (go_at_call 27; refine HC.out.mono ?_; rintro e w1 ⟨rfl, hb1⟩; rw [HR.out])
    go_ret2
    exact ⟨_, 0, 0, rfl, by rw [HF.out]; exact mat_lit hb1, below_next hb1 (below_box _ _) rfl⟩
  · have hr : inB n 0 6 = true := by
      cases e : inB n 0 6 with
      | true => rfl
      | false => unfold sysRes at h1; rw [e] at h1; simp at h1
    have hr2 : 0 ≤ n ∧ n ≤ 6 := by unfold inB at hr; simpa using hr
    obtain ⟨k, rfl⟩ := Int.eq_ofNat_of_zero_le hr2.1
    refine (implFS_yes A m c k S w h hm hS (by omega) h1).mono ?_
    rintro e w' ⟨A', q, c', yss, rfl, hM, hP, hW, hb⟩
    have e : yss = fsRes (k : Int) S := by
      unfold fsRes
      rw [h1, if_pos rfl, Int.toNat_natCast]
      exact fr_fin (Nat.le_trans (Nat.pow_le_pow_right (by decide) (by omega : k ≤ 6)) (by decide)) hP hW
    rw [e] at hM
    exact ⟨A', q, c', rfl, hM, hb⟩
end Go.Proofs.YtlncpabnlnipoaaGreat
