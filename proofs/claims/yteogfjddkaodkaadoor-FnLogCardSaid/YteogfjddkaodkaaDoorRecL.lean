
/- Plain law: what RecoverLog hands back is a valid log, and SyncLog leaves it as it is. -/
import Derived.Test.YteogfjddkaodkaaDoorSync
namespace Go.Proofs.YteogfjddkaodkaaDoor
open Go.RowKit

theorem recD_bs {s : ByteArray} (h : ¬ 30000 < s.size) : bs (recD s) = linesL 0 (recsOf (readAll (bs s))) := by
  obtain ⟨-, -, h3, t, h4⟩ := readAll_split (bs s)
  unfold recD
  rw [if_neg h, bs_ext]
  simp only [List.drop_zero, Nat.sub_zero]
  have : endA s = (linesL 0 (recsOf (readAll (bs s)))).length := h3
  rw [this]
  clear this h3
  generalize linesL 0 (recsOf (readAll (bs s))) = L at h4 ⊢
  rw [h4, List.take_append_of_le_length (Nat.le_refl _), List.take_length]
theorem recD_read {s : ByteArray} (h : ¬ 30000 < s.size) : endA (recD s) = (recD s).size ∧ cntA (recD s) = recN s := by
  obtain ⟨h1, h2, -, -⟩ := readAll_split (bs s)
  obtain ⟨h5, h6⟩ := readAll_lines h1 (by rw [recsOf_len]; exact h2)
  constructor
  · unfold endA
    rw [recD_bs h, h6, ← recD_bs h]
    rfl
  · unfold cntA recN
    rw [if_neg h, recD_bs h]
    have := congrArg List.length h5
    rw [recsOf_len, recsOf_len] at this
    exact this
theorem app_nil (d : ByteArray) : d ++ (⟨#[]⟩ : ByteArray) = d := by
  apply ByteArray.ext
  simp
theorem rec_valid {s : ByteArray} (h : ¬ 30000 < s.size) : vS (recD s ++ ⟨#[]⟩) (recD s) (recN s) = true := by
  obtain ⟨h1, h2⟩ := recD_read h
  have h3 : (recD s).size ≤ s.size := by
    have := endA_le s
    unfold recD
    rw [if_neg h, ByteArray.size_extract]
    omega
  rw [app_nil]
  unfold vS
  simp only [Bool.and_eq_true, decide_eq_true_eq]
  exact ⟨by omega, h1, h1, by rw [h2]⟩
theorem rec_sync {s : ByteArray} (h : ¬ 30000 < s.size) : syncD (recD s) ⟨#[]⟩ (recN s) = recD s ∧ syncN (recD s) ⟨#[]⟩ (recN s) = recN s := by
  unfold syncD syncN
  rw [rec_valid h, if_pos rfl, if_pos rfl]
  exact ⟨app_nil _, rfl⟩

/-! ## a line by itself -/
theorem line_zero {c r : Bs} (hg : goodL c r = true) : (readAll (lineL 0 c r)).length = 1 ∧ endOf (readAll (lineL 0 c r)) = (lineL 0 c r).length := by
  have e : lineL 0 c r = linesL 0 [(c, r)] := by simp [linesL]
  obtain ⟨h1, h2⟩ := readAll_lines (es := [(c, r)]) (fun x hx => by simp at hx; subst hx; exact hg) (by simp)
  rw [← e] at h1 h2
  refine ⟨?_, h2⟩
  have := congrArg List.length h1
  rw [recsOf_len] at this
  exact this
theorem line_pos_read {k : Nat} {c r : Bs} (hk : 0 < k) : readAll (lineL k c r) = [] := by
  have hs : stepL 0 (lineL k c r) = none := by
    rcases h : stepL 0 (lineL k c r) with _ | ⟨⟨c', r'⟩, m⟩
    · rfl
    · obtain ⟨-, -, -, t, ht⟩ := step_some.1 h
      rw [line_eq, line_eq, List.append_assoc, List.cons_append] at ht
      obtain ⟨h1, -⟩ := split_unique (nd (by decide)) (nd (by decide)) ht
      have := dec_inj h1
      omega
  unfold readAll readL
  rw [hs]
end Go.Proofs.YteogfjddkaodkaaDoor
