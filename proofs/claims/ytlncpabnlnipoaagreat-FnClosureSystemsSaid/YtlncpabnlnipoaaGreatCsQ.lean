
/- Plain laws: what FnClosureSystems asks of the answers. -/
import Derived.Test.YtlncpabnlnipoaaGreatCsL
import Derived.Test.YtlncpabnlnipoaaGreatSysF2
namespace Go.Proofs.YtlncpabnlnipoaaGreat
open Go.RowKit

section
variable {n : Int} {S : List (List Int)} {T : List Int}
theorem cq_sys (h : sysRes n S = true) : ∃ k : Nat, n = (k : Int) ∧ k ≤ 6 ∧ IsSys k S := by
  have h0 := h
  unfold sysRes inB at h
  simp only [Bool.and_eq_true, decide_eq_true_eq] at h
  obtain ⟨k, rfl⟩ := Int.eq_ofNat_of_zero_le h.1.1
  exact ⟨k, rfl, by omega, sysB_iff.1 h.2⟩
theorem cq_ok (h : closeOk n S T = true) : sysRes n S = true ∧ setB n T = true := by
  unfold closeOk at h
  rwa [Bool.and_eq_true] at h
theorem cq_res (h : closeOk n S T = true) : closeRes n S T = closeL T S := by unfold closeRes; rw [h, if_pos rfl]
theorem cq_fine (h : sysRes n S = true) : inB n 0 6 = true := by unfold sysRes at h; rw [Bool.and_eq_true] at h; exact h.1
theorem cq_mk (h : sysRes n S = true) (h2 : setB n T = true) : closeOk n S T = true := by unfold closeOk; rw [h, h2]; rfl
theorem cq_againOk (h : closeOk n S T = true) : closeOk n S (closeRes n S T) = true := by
  obtain ⟨h1, h2⟩ := cq_ok h
  obtain ⟨k, rfl, hk, hS⟩ := cq_sys h1
  rw [cq_res h]
  exact cq_mk h1 (setB_iff.2 (hS.1.2 _ (sys_close hS (setB_iff.1 h2).2).1))
theorem cq_again (h : closeOk n S T = true) : closeRes n S (closeRes n S T) = closeRes n S T := by
  rw [cq_res (cq_againOk h), cq_res h]
  obtain ⟨h1, h2⟩ := cq_ok h
  obtain ⟨k, rfl, hk, hS⟩ := cq_sys h1
  exact close_idem hS (setB_iff.1 h2).2
theorem cq_within (h : closeOk n S T = true) : partL (closeRes n S T) T = true := by
  rw [cq_res h]
  obtain ⟨h1, h2⟩ := cq_ok h
  obtain ⟨k, rfl, hk, hS⟩ := cq_sys h1
  exact (sys_close hS (setB_iff.1 h2).2).2
theorem cq_sub {k : Nat} (h : IsSet k T) {i : Nat} : IsSet k (T.take i ++ T.drop (i + 1)) := by
  have hs : (T.take i ++ T.drop (i + 1)).Sublist T := by
    have e : T.take i ++ T.drop i = T := List.take_append_drop i T
    conv => rhs; rw [← e]
    exact (List.Sublist.refl _).append (by rw [← List.drop_drop]; exact List.drop_sublist 1 _)
  exact ⟨h.1.sublist hs, fun x hx => h.2 x (hs.subset hx)⟩
theorem cq_subOk (h : closeOk n S T = true) (i : Nat) : closeOk n S (T.take i ++ T.drop (i + 1)) = true := by
  obtain ⟨h1, h2⟩ := cq_ok h
  obtain ⟨k, rfl, hk, hS⟩ := cq_sys h1
  exact cq_mk h1 (setB_iff.2 (cq_sub (setB_iff.1 h2)))
theorem cq_less (h : closeOk n S T = true) (i : Nat) : partL (closeRes n S T) (closeRes n S (T.take i ++ T.drop (i + 1))) = true := by
  rw [cq_res h, cq_res (cq_subOk h i)]
  obtain ⟨h1, h2⟩ := cq_ok h
  obtain ⟨k, rfl, hk, hS⟩ := cq_sys h1
  have hT := setB_iff.1 h2
  have hc := sys_close hS hT.2
  refine close_least hS (cq_sub hT).2 hc.1 (partL_iff.2 fun x hx => partL_iff.1 hc.2 x ?_)
  rcases List.mem_append.1 hx with hx | hx
  · exact List.mem_of_mem_take hx
  · exact List.mem_of_mem_drop hx
theorem cq_len (h : sysRes n S = true) : S.length ≤ 64 ∧ ∀ p ∈ S, p.length ≤ 6 ∧ ∀ y ∈ p, 0 ≤ y ∧ y ≤ 5 := by
  obtain ⟨k, rfl, hk, hS⟩ := cq_sys h
  refine ⟨inv_len hS.1 hk, fun p hp => ?_⟩
  have h1 := hS.1.2 p hp
  have h2 := isSet_len h1
  exact ⟨by omega, fun y hy => by have := h1.2 y hy; omega⟩
theorem cq_bd (n : Int) (S : List (List Int)) (T : List Int) : ∀ x ∈ closeRes n S T, -9223372036854775808 ≤ x ∧ x ≤ 9223372036854775807 := fun x hx => by
  unfold closeRes at hx
  split at hx
  · rename_i h
    obtain ⟨h1, h2⟩ := cq_ok h
    obtain ⟨k, rfl, hk, hS⟩ := cq_sys h1
    have := ((cq_len h1).2 _ (sys_close hS (setB_iff.1 h2).2).1).2 x hx
    omega
  · simp at hx
theorem cq_irrOk (h : sysRes n S = true) (hl : (irrRes n S).length ≤ 20) : sfOk n (irrRes n S) = true := by
  obtain ⟨k, rfl, hk, hS⟩ := cq_sys h
  rw [sf_is (cq_fine h) hl]
  exact allSets_iff.2 fun p hp => hS.1.2 p (mem_irrRes hp)
theorem cq_irr (h : sysRes n S = true) (hl : (irrRes n S).length ≤ 20) : sfRes n (irrRes n S) = S := by
  have h1 := cq_irrOk h hl
  unfold sfRes
  rw [h1, if_pos rfl]
  unfold irrRes
  rw [h, if_pos rfl]
  obtain ⟨k, rfl, hk, hS⟩ := cq_sys h
  exact irr_gen hS
theorem cq_lat (h : posOk n S = true) : GoodP (posRes n S) ∧ LatP (leF (posRes n S)) (posRes n S).length := by
  have h10 := posOk_len h
  have hs : sysRes n S = true := by unfold posOk at h; rw [Bool.and_eq_true] at h; exact h.1
  unfold posRes
  rw [h, if_pos rfl, posTo_len]
  obtain ⟨k, rfl, hk, hS⟩ := cq_sys hs
  exact pos_lat hS h10
theorem cq_irrRI (h : sysRes n S = true) (w : World) : ∀ p ∈ irrRes n S, ∀ y ∈ p, RI w (.int .i64 y) y := fun p hp y hy => by
  have := ((cq_len h).2 p (mem_irrRes hp)).2 y hy
  exact ⟨rfl, by omega, by omega⟩
theorem cq_irrRI' (n : Int) (S : List (List Int)) (w : World) : ∀ p ∈ irrRes n S, ∀ y ∈ p, RI w (.int .i64 y) y := fun p hp y hy => by
  cases h : sysRes n S with
  | true => exact cq_irrRI h w p hp y hy
  | false => unfold irrRes at hp; rw [h] at hp; simp at hp
theorem cq_told (h : sfOk n S = true) : inB n 0 6 = true ∧ sysRes n (sfRes n S) = true := by
  have h0 := h
  unfold sfOk at h0
  rw [Bool.and_eq_true] at h0
  have hb := h0.1
  refine ⟨hb, ?_⟩
  unfold sysRes
  rw [hb, Bool.true_and]
  unfold sfRes
  rw [h, if_pos rfl]
  unfold inB at hb
  simp only [Bool.and_eq_true, decide_eq_true_eq] at hb
  obtain ⟨k, rfl⟩ := Int.eq_ofNat_of_zero_le hb.1
  exact sysB_iff.2 ⟨systemL_inv k S, systemL_cl k S, systemL_top k S⟩
theorem cq_place (h : sfOk n S = true) {p : List Int} (hp : p ∈ S) : 0 ≤ place (sfRes n S) p := by
  rw [place_iff]
  unfold sfRes
  rw [h, if_pos rfl]
  unfold sfOk at h
  rw [Bool.and_eq_true, Bool.and_eq_true] at h
  obtain ⟨h1, h2, h3⟩ := h
  unfold inB at h1
  simp only [Bool.and_eq_true, decide_eq_true_eq] at h1
  obtain ⟨k, rfl⟩ := Int.eq_ofNat_of_zero_le h1.1
  exact systemTo_has (List.mem_singleton.2 rfl) (allSets_iff.1 h3 p hp) hp
end
end Go.Proofs.YtlncpabnlnipoaaGreat
