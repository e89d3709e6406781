
/- Walks: when a relation is an order (the program's isOrder). -/
import Derived.Test.YtfcjhmaggefhaaaPoset
namespace Go.Proofs.Ytfcjhmaggefhaaa
open Go.RowKit

noncomputable def tt (p : Prop) : Bool := @decide p (Classical.propDecidable p)
theorem tt_true {p : Prop} (h : p) : true = tt p := by unfold tt; simp [h]
theorem tt_false {p : Prop} (h : ¬ p) : false = tt p := by unfold tt; simp [h]
theorem tt_iff {p : Prop} : tt p = true ↔ p := by unfold tt; simp
theorem tt_congr {p q : Prop} (h : p ↔ q) : tt p = tt q := by unfold tt; simp [h]

def TrP (F : Nat → Nat → Bool) (x y z : Nat) : Prop := ¬ (F x y = true ∧ F y z = true ∧ F x z = false)
def AnP (n : Nat) (F : Nat → Nat → Bool) (x y : Nat) : Prop := ¬ (x ≠ y ∧ F x y = true ∧ F y x = true) ∧ ∀ z < n, TrP F x y z
def OrP (n : Nat) (F : Nat → Nat → Bool) (x : Nat) : Prop := F x x = true ∧ ∀ y < n, AnP n F x y
def OrdP (n : Nat) (F : Nat → Nat → Bool) : Prop := ∀ x < n, OrP n F x

theorem RdL.rowT {w : World} {b o n : Nat} {F : Nat → Nat → Bool} (h : RdL (RV RB) w (some ⟨b, o, none⟩) n (tab n F)) {i : Nat} (hi : i < n) :
    ∃ r p d, w.cell? ⟨b, o + i, none⟩ = some (.slice (some ⟨r, p, none⟩) n d) ∧ ∀ k, k < n → w.cell? ⟨r, p + k, none⟩ = some (.bool (F i k)) := by
  obtain ⟨v, row, hc, ⟨B, m, d, rfl, hr⟩, -, hx⟩ := h.at' hi
  rw [tab_get hi] at hx
  injection hx with hx
  subst hx
  have hm : m = n := by have := hr.len; simpa using this.symm
  subst hm
  obtain ⟨r, p, -, -, rfl, -⟩ := hr.at hi
  refine ⟨r, p, d, hc, fun k hk => ?_⟩
  obtain ⟨v, x, hc', hv, -, hx'⟩ := hr.at' hk
  rw [row_get hk] at hx'
  injection hx' with hx'
  subst hx'
  rw [hv] at hc'
  exact hc'
theorem RdL.addr {α : Type} {R : World → Value → α → Prop} {w : World} {A : Option Addr} {n : Nat} {xs : List α} (h : RdL R w A n xs) {k : Nat} (hk : k < n) : ∃ b o, A = some ⟨b, o, none⟩ := by
  obtain ⟨b, o, -, -, e, -⟩ := h.at hk
  exact ⟨b, o, e⟩

set_option maxHeartbeats 1000000 in
theorem isOrder_any (A : Option Addr) (n c : Nat) (F : Nat → Nat → Bool) (w : World) (h : RdL (RV RB) w A n (tab n F)) :
    Calls Try.prog 170 #[.slice A n c] w fun e w' => e = .returned (.bool (tt (OrdP n F))) ∧ w = w' := by
  have hle := h.le
  go_enter Try.func170, Try.ntmps170
  go_wp2
  go_loop [8] (fun i => ∃ k : Nat, k ≤ n ∧ i = .int .i64 k ∧ ∀ x < k, OrP n F x) (fun i => n - (intOf i).toNat)
  case atStart => exact ⟨0, Nat.zero_le _, rfl, fun x hx => absurd hx (by omega)⟩
  case round =>
    obtain ⟨k, hk, rfl, H⟩ := hrel
    have HH := Lib.hid H
    clear H
    by_cases hlt : k < n
    · obtain ⟨b, o, rfl⟩ := h.addr hlt
      obtain ⟨r, p, d, hc1, hall⟩ := h.rowT hlt
      have HA := Lib.hid hall
      have hc2 := hall k hlt
      clear hall
      have hk0 : (0 : Int) ≤ (k : Int) := by omega
      have hk1 : (k : Int) < (n : Int) := by omega
      rcases hkk : F k k with _ | _
      · rw [hkk] at hc2
        have HK := Lib.hid hkk
        clear hkk
        go_wp2
        go_ret
        exact ⟨ret_bool (tt_false fun hh => by have := (hh k hlt).1; rw [HK.out] at this; exact absurd this (by decide)), rfl⟩
      · rw [hkk] at hc2
        have HK := Lib.hid hkk
        clear hkk
        go_wp2
        clear hc2
        go_loop [21] (fun i => ∃ q : Nat, q ≤ n ∧ i = .int .i64 q ∧ ∀ y < q, AnP n F k y) (fun i => n - (intOf i).toNat)
        case atStart => exact ⟨0, Nat.zero_le _, rfl, fun x hx => absurd hx (by omega)⟩
        case round =>
          obtain ⟨q, hq, rfl, H2⟩ := hrel
          have HH2 := Lib.hid H2
          clear H2
          by_cases hltq : q < n
          · obtain ⟨r2, p2, d2, hc3, hall2⟩ := h.rowT hltq
            have HA2 := Lib.hid hall2
            have hq0 : (0 : Int) ≤ (q : Int) := by omega
            have hq1 : (q : Int) < (n : Int) := by omega
            clear hall2
            have hkq := HA.out q hltq
            have hqk := HA2.out k hlt
            by_cases hbad : k ≠ q ∧ F k q = true ∧ F q k = true
            · rw [hbad.2.1] at hkq
              rw [hbad.2.2] at hqk
              have hne : ((k : Int) != (q : Int)) = true := by rw [bne_iff_ne]; have := hbad.1; omega
              have HB := Lib.hid hbad
              clear hbad
              go_wp2
              go_ret
              exact ⟨ret_bool (tt_false fun hh => ((hh k hlt).2 q hltq).1 HB.out), rfl⟩
            · have HB := Lib.hid hbad
              have hloop : ∀ z, z < n → w.cell? ⟨r2, p2 + z, none⟩ = some (.bool (F q z)) := HA2.out
              have HL := Lib.hid hloop
              clear hloop
              rcases hF1 : F k q with _ | _
              all_goals
                rcases hF2 : F q k with _ | _
              all_goals
                rw [hF1] at hkq
                rw [hF2] at hqk
                have HF1 := Lib.hid hF1
                have HF2 := Lib.hid hF2
                rcases hkqe : ((k : Int) != (q : Int)) with _ | _
                all_goals first
                  | (exfalso; exact HB.out ⟨by rw [bne_iff_ne] at hkqe; omega, HF1.out, HF2.out⟩)
                  | skip
              all_goals
                clear hF1 hF2
                go_wp2
                go_loop [47] (fun i => ∃ z : Nat, z ≤ n ∧ i = .int .i64 z ∧ ∀ y < z, TrP F k q y) (fun i => n - (intOf i).toNat)
                case atStart => exact ⟨0, Nat.zero_le _, rfl, fun x hx => absurd hx (by omega)⟩
                case round =>
                  obtain ⟨z, hz, rfl, H3⟩ := hrel
                  have HH3 := Lib.hid H3
                  clear H3
                  by_cases hltz : z < n
                  · have hqz := HA2.out z hltz
                    have hkz := HA.out z hltz
                    have hz0 : (0 : Int) ≤ (z : Int) := by omega
                    have hz1 : (z : Int) < (n : Int) := by omega
                    rcases hG1 : F q z with _ | _
                    all_goals
                      rcases hG2 : F k z with _ | _
                    all_goals
                      rw [hG1] at hqz
                      rw [hG2] at hkz
                      have HG1 := Lib.hid hG1
                      have HG2 := Lib.hid hG2
                      clear hG1 hG2
                      go_wp2
                      first
                        | (go_round
                           case rel => exact ⟨z + 1, by omega, by go_num, fun y hy => by
                             rcases Nat.lt_or_ge y z with h1 | h1
                             · exact HH3.out y h1
                             · have : y = z := by omega
                               subst this
                               unfold TrP
                               rw [HF1.out, HG1.out, HG2.out]
                               decide⟩
                           case measure => simp [intOf]; omega)
                        | (go_ret
                           exact ⟨ret_bool (tt_false fun hh => ((hh k hlt).2 q hltq).2 z hltz ⟨HF1.out, HG1.out, HG2.out⟩), rfl⟩)
                  · have HE := Lib.hid (show ∀ y < n, TrP F k q y from fun y hy => HH3.out y (by omega))
                    go_wp2
                    go_round
                    case rel => exact ⟨q + 1, by omega, by go_num, fun y hy => by
                      rcases Nat.lt_or_ge y q with h1 | h1
                      · exact HH2.out y h1
                      · have : y = q := by omega
                        subst this
                        exact ⟨HB.out, HE.out⟩⟩
                    case measure => simp [intOf]; omega
          · have HE := Lib.hid (show ∀ y < n, AnP n F k y from fun y hy => HH2.out y (by omega))
            go_wp2
            go_round
            case rel => exact ⟨k + 1, by omega, by go_num, fun y hy => by
              rcases Nat.lt_or_ge y k with h1 | h1
              · exact HH.out y h1
              · have : y = k := by omega
                subst this
                exact ⟨HK.out, HE.out⟩⟩
            case measure => simp [intOf]; omega
    · have HE := Lib.hid (show OrdP n F from fun x hx => HH.out x (by omega))
      go_wp2
      go_ret
      exact ⟨ret_bool (tt_true HE.out), rfl⟩
end Go.Proofs.Ytfcjhmaggefhaaa
