
/- Walks: sort.symMerge_func. Printed by genstab.py. -/
import Derived.Test.YtlncpabnlnipoaaGreatStab
import Derived.Deep.RegionHeld3
import Derived.Deep.DeepCutAuto
namespace Go.Proofs.YtlncpabnlnipoaaGreat
open Go.Shelf Go.RowKit Go.Lib Go.Sort
section
variable {P : Program} {ρ : Ren} {α : Type} [Inhabited α] {enc : α → Value} {lt : α → α → Bool} {g : Nat} {lb : Array Value} {sf : Nat} {sb : Array Value} {blk off : Nat} {d e f : Array α} {W W1 W2 : World}
set_option linter.unusedVariables false in
set_option maxHeartbeats 4000000 in
set_option maxRecDepth 100000 in
theorem symMerge_s (hO : SWO lt) (L : LaysGt.n30 P ρ) : ∀ (s : Nat) (d : Array α) (W : World), SCtx P enc lt g lb sf sb blk off d W → ∀ (a m b : Nat), b - a ≤ s → a < m → m < b → b ≤ d.size → SortedIn lt a m d → SortedIn lt m b d →
    Calls P (ρ.f 30) #[.agg #[.func (.func g) #[] lb, .func (.func sf) #[] sb], .int .i64 a, .int .i64 m, .int .i64 b] W fun e w' => e = .returned (.tuple #[]) ∧ ∃ d', SW enc W blk off d' w' ∧ PermIn a b d d' ∧ SortedIn lt a b d' := by
  intro s
  induction s with
  | zero => intro d W C a m b hs h1 h2; omega
  | succ s ih =>
    intro d W C a m b hs ham hmb hb hS1 hS2
    have mixed := L.mixed; have t0 := L.t0; have a0 := L.a0; have z0 := L.z0; have v0 := L.v0; have t3 := L.t3; have a3 := L.a3; have z3 := L.z3; have v3 := L.v3; have t4 := L.t4; have a4 := L.a4; have z4 := L.z4; have v4 := L.v4; have t26 := L.t26; have a26 := L.a26; have z26 := L.z26; have v26 := L.v26; have t38 := L.t38; have a38 := L.a38; have z38 := L.z38; have v38 := L.v38; have t42 := L.t42; have a42 := L.a42; have z42 := L.z42; have v42 := L.v42; have t47 := L.t47; have a47 := L.a47; have z47 := L.z47; have v47 := L.v47
    have u42 := run_underlying L.t42
    have S0 : SW enc W blk off d (W.alloc (.cells #[.func (.func g) #[] lb, .func (.func sf) #[] sb] (ρ.t 42))) := C.start.alloc _
    have B0 : BoxD g lb sf sb W.heap.size (W.alloc (.cells #[.func (.func g) #[] lb, .func (.func sf) #[] sb] (ρ.t 42))) := BoxD.new W
    have hbn : W.heap.size ≠ blk := by have := C.bl; omega
    have hsz := C.sz
    have eg := C.eg
    have e42 : ∀ args w, (callFunc (ρ.f 42) args).run P w = .ok (.enter (ρ.f 42) args) w := enters_of L.f42 (by kernel_rfl) rfl
    have e30 : ∀ args w, (callFunc (ρ.f 30) args).run P w = .ok (.enter (ρ.f 30) args) w := enters_of L.f30 (by kernel_rfl) rfl
    have L42 : LaysGt.n42 P ρ := { L with }
    have half : ∀ x : Nat, x ≤ 9223372036854775807 → IntKind.u64.wrap (x : Int) = x ∧ IntKind.i64.wrap ((x / 2 : Nat) : Int) = ((x / 2 : Nat) : Int) := fun x hx => ⟨by simp [IntKind.wrap, IntKind.bits, IntKind.signed]; omega, IntWalk.i64_in _ ⟨by omega, by omega⟩⟩
    have HALF := Lib.hid half
    have HS1 := Lib.hid hS1
    have HS2 := Lib.hid hS2
    clear half hS1 hS2
    have BX : ∀ w', BoxD g lb sf sb W.heap.size w' → Hid (BoxD g lb sf sb W.heap.size w') := fun _ h => h
    by_cases hA : m - a = 1
    · have hc1 : ((m : Int) - (a : Int) == 1) = true := by simp; omega
      go_enter L.f30, BodyGt.n30_ntmps ρ
      go_wp2
      go_loopw [8, 9] (fun vi vj wr => ∃ i j : Nat, vi = .int .i64 i ∧ vj = .int .i64 j ∧ a + 1 ≤ i ∧ i ≤ j ∧ j ≤ b ∧ (i = a + 1 ∨ lt d[i - 1]! d[a]! = true) ∧ (j = b ∨ lt d[j]! d[a]! = false) ∧ SW enc W blk off d wr ∧ BoxD g lb sf sb W.heap.size wr) (fun vi vj _ => (intOf vj).toNat - (intOf vi).toNat)
      case atStart => exact ⟨m, b, rfl, rfl, by omega, by omega, Nat.le_refl _, .inl (by omega), .inl rfl, S0, B0⟩
      case round =>
        clear S0 B0
        obtain ⟨i, j, rfl, rfl, hi, hij, hj, hI, hJ, S, hB0, hB1⟩ := hrel
        have HB := BX wr ⟨hB0, hB1⟩
        have HI := Lib.hid hI
        have HJ := Lib.hid hJ
        clear hI hJ
        by_cases hlt : i < j
        · have hc2 : (i : Int) < (j : Int) := by omega
          obtain ⟨wu, wi⟩ := HALF.out (i + j) (by omega)
          obtain ⟨h, hh⟩ : ∃ h, h = (i + j) / 2 := ⟨_, rfl⟩
          have hm1 : i ≤ h := by omega
          have hm2 : h < j := by omega
          have hhc : ((i : Int) + (j : Int)) / 2 = (h : Int) := by omega
          have hl := C.lessAt S rfl h a (by omega) (by omega)
          rw [← hhc] at hl
          have HHC := Lib.hid hhc
          clear hhc hh
          cases hlv : lt d[h]! d[a]! with
          | true =>
            rw [hlv] at hl
            have HLV := Lib.hid hlv
            clear hlv
            go_wp2_with (go_at_fn g; refine hl.mono ?_; rintro e w' ⟨rfl, S', hcs⟩)
            go_roundw
            case rel => exact ⟨h + 1, j, by rw [HHC.out]; go_num, rfl, by omega, by omega, hj, .inr HLV.out, HJ.out, S', HB.out.same hcs⟩
            case measure => simp [intOf]; omega
          | false =>
            rw [hlv] at hl
            have HLV := Lib.hid hlv
            clear hlv
            go_wp2_with (go_at_fn g; refine hl.mono ?_; rintro e w' ⟨rfl, S', hcs⟩)
            go_roundw
            case rel => exact ⟨i, h, rfl, by rw [HHC.out], hi, by omega, by omega, HI.out, .inr HLV.out, S', HB.out.same hcs⟩
            case measure => simp [intOf]; omega
        · obtain rfl : i = j := by omega
          have hc2 : ¬ (i : Int) < (i : Int) := by omega
          go_wp2
          go_loopw [11] (fun vk wr => ∃ (k : Nat) (dk : Array α), vk = .int .i64 k ∧ a ≤ k ∧ k + 1 ≤ i ∧ SW enc W blk off dk wr ∧ Rot d a (a + 1) (k + 1) dk ∧ BoxD g lb sf sb W.heap.size wr) (fun vk _ => i - (intOf vk).toNat)
          case atStart => exact ⟨a, d, rfl, Nat.le_refl _, hi, S, Rot.self_r d a (a + 1), HB.out⟩
          case round =>
            clear S hB0 hB1 HB
            obtain ⟨k, dk, rfl, hk1, hk2, S, R, hB0, hB1⟩ := hrel
            have HB := BX wr ⟨hB0, hB1⟩
            have hds := R.size
            by_cases hki : k + 1 < i
            · have hc3 : (k : Int) < (i : Int) - 1 := by omega
              have hs := C.swap wr dk (S.holds C.bl C.hold hds) hds k (k + 1) (by omega) (by omega)
              rw [show ((k + 1 : Nat) : Int) = (k : Int) + 1 by omega] at hs
              have S2 := S.swap C.bl k (k + 1) (by omega) (by omega)
              go_wp2
              go_roundw
              case rel => exact ⟨k + 1, _, by go_num, by omega, by omega, S2, rot_up hk1 (by omega) R, HB.out.swap hbn _ _ _ _⟩
              case measure => simp [intOf]; omega
            · have hc3 : ¬ (k : Int) < (i : Int) - 1 := by omega
              go_wp2
              (try simp only [Exit.inBlock, Exit.then])
              refine bodyPost_ret (results_none rfl _ _ _) rfl ?_
              obtain rfl : i = k + 1 := by omega
              exact ⟨rfl, dk, S, permIn_in R.perm (Nat.le_refl _) hj hb, one_left' hO hi hj (show SortedIn lt (a + 1) b d by rw [show a + 1 = m by omega]; exact HS2.out) HI.out HJ.out R⟩
    · by_cases hB : b - m = 1
      · have hc1 : ((m : Int) - (a : Int) == 1) = false := by simp; omega
        have hc1' : ((b : Int) - (m : Int) == 1) = true := by simp; omega
        go_enter L.f30, BodyGt.n30_ntmps ρ
        go_wp2
        go_loopw [12, 13] (fun vi vj wr => ∃ i j : Nat, vi = .int .i64 i ∧ vj = .int .i64 j ∧ a ≤ i ∧ i ≤ j ∧ j ≤ m ∧ (i = a ∨ lt d[m]! d[i - 1]! = false) ∧ (j = m ∨ lt d[m]! d[j]! = true) ∧ SW enc W blk off d wr ∧ BoxD g lb sf sb W.heap.size wr) (fun vi vj _ => (intOf vj).toNat - (intOf vi).toNat)
        case atStart => exact ⟨a, m, rfl, rfl, Nat.le_refl _, by omega, Nat.le_refl _, .inl rfl, .inl rfl, S0, B0⟩
        case round =>
          clear S0 B0
          obtain ⟨i, j, rfl, rfl, hi, hij, hj, hI, hJ, S, hB0, hB1⟩ := hrel
          have HB := BX wr ⟨hB0, hB1⟩
          have HI := Lib.hid hI
          have HJ := Lib.hid hJ
          clear hI hJ
          by_cases hlt : i < j
          · have hc2 : (i : Int) < (j : Int) := by omega
            obtain ⟨wu, wi⟩ := HALF.out (i + j) (by omega)
            obtain ⟨h, hh⟩ : ∃ h, h = (i + j) / 2 := ⟨_, rfl⟩
            have hm1 : i ≤ h := by omega
            have hm2 : h < j := by omega
            have hhc : ((i : Int) + (j : Int)) / 2 = (h : Int) := by omega
            have hl := C.lessAt S rfl m h (by omega) (by omega)
            rw [← hhc] at hl
            have HHC := Lib.hid hhc
            clear hhc hh
            cases hlv : lt d[m]! d[h]! with
            | true =>
              rw [hlv] at hl
              have HLV := Lib.hid hlv
              clear hlv
              go_wp2_with (go_at_fn g; refine hl.mono ?_; rintro e w' ⟨rfl, S', hcs⟩)
              go_roundw
              case rel => exact ⟨i, h, rfl, by rw [HHC.out], hi, by omega, by omega, HI.out, .inr HLV.out, S', HB.out.same hcs⟩
              case measure => simp [intOf]; omega
            | false =>
              rw [hlv] at hl
              have HLV := Lib.hid hlv
              clear hlv
              go_wp2_with (go_at_fn g; refine hl.mono ?_; rintro e w' ⟨rfl, S', hcs⟩)
              go_roundw
              case rel => exact ⟨h + 1, j, by rw [HHC.out]; go_num, rfl, by omega, by omega, hj, .inr HLV.out, HJ.out, S', HB.out.same hcs⟩
              case measure => simp [intOf]; omega
          · obtain rfl : i = j := by omega
            have hc2 : ¬ (i : Int) < (i : Int) := by omega
            go_wp2
            go_loopw [15] (fun vk wr => ∃ (k : Nat) (dk : Array α), vk = .int .i64 k ∧ i ≤ k ∧ k ≤ m ∧ SW enc W blk off dk wr ∧ Rot d k m (m + 1) dk ∧ BoxD g lb sf sb W.heap.size wr) (fun vk _ => (intOf vk).toNat)
            case atStart => exact ⟨m, d, rfl, hj, Nat.le_refl _, S, Rot.self_l d m (m + 1), HB.out⟩
            case round =>
              clear S hB0 hB1 HB
              obtain ⟨k, dk, rfl, hk1, hk2, S, R, hB0, hB1⟩ := hrel
              have HB := BX wr ⟨hB0, hB1⟩
              have hds := R.size
              by_cases hki : i < k
              · have hc3 : (i : Int) < (k : Int) := by omega
                have hs := C.swap wr dk (S.holds C.bl C.hold hds) hds k (k - 1) (by omega) (by omega)
                rw [show ((k - 1 : Nat) : Int) = (k : Int) - 1 by omega] at hs
                have S2 := S.swap C.bl k (k - 1) (by omega) (by omega)
                have hR2 : Hid (Rot d (k - 1) m (m + 1) (swp dk k (k - 1))) := by
                  have := rot_down (d := d) (m := m) (k := k - 1) (e := dk) (by omega) (by omega) (by rw [show k - 1 + 1 = k by omega]; exact R)
                  rwa [show k - 1 + 1 = k by omega] at this
                go_wp2
                go_roundw
                case rel => exact ⟨k - 1, _, by go_num, by omega, by omega, S2, hR2.out, HB.out.swap hbn _ _ _ _⟩
                case measure => simp [intOf]; omega
              · obtain rfl : i = k := by omega
                have hc3 : ¬ (i : Int) < (i : Int) := by omega
                go_wp2
                (try simp only [Exit.inBlock, Exit.then])
                refine bodyPost_ret (results_none rfl _ _ _) rfl ?_
                obtain rfl : b = m + 1 := by omega
                exact ⟨rfl, dk, S, permIn_in R.perm hi (Nat.le_refl _) hb, one_right' hO hi hj HS1.out HI.out HJ.out R⟩
      · have hc1 : ((m : Int) - (a : Int) == 1) = false := by simp; omega
        have hc1' : ((b : Int) - (m : Int) == 1) = false := by simp; omega
        obtain ⟨wu, wi⟩ := HALF.out (a + b) (by omega)
        go_enter L.f30, BodyGt.n30_ntmps ρ
        go_upto_if 106 with fail
        obtain ⟨mid, hmid⟩ : ∃ mid, mid = (a + b) / 2 := ⟨_, rfl⟩
        have hmc : ((a : Int) + (b : Int)) / 2 = (mid : Int) := by omega
        have hm1 : a < mid := by omega
        have hm2 : mid < b := by omega
        have hm3 : 2 * mid ≤ a + b := by omega
        have hm4 : a + b ≤ 2 * mid + 1 := by omega
        rw [hmc]
        clear hmc hmid wu wi
        go_cut [18, 19] (fun v18 v19 wx => ∃ s0 r0 : Nat, v18 = .int .i64 s0 ∧ v19 = .int .i64 r0 ∧ a ≤ s0 ∧ s0 ≤ r0 ∧ r0 ≤ m ∧ r0 ≤ mid ∧ mid + m ≤ b + s0 ∧ (s0 = a ∨ mid + m - s0 = b) ∧ (r0 = m ∨ r0 = mid) ∧ SW enc W blk off d wx ∧ BoxD g lb sf sb W.heap.size wx)
        case first =>
          by_cases hgt : mid < m
          · have hc2 : (mid : Int) < (m : Int) := by omega
            go_wp2
            go_meet
            exact ⟨mid + m - b, mid, by go_num, rfl, by omega, by omega, by omega, Nat.le_refl _, by omega, .inr (by omega), .inr rfl, S0, B0⟩
          · have hc2 : ¬ (mid : Int) < (m : Int) := by omega
            go_wp2
            go_meet
            exact ⟨a, m, rfl, rfl, Nat.le_refl _, by omega, Nat.le_refl _, by omega, by omega, .inl rfl, .inl rfl, S0, B0⟩
        case rest =>
          clear S0 B0
          obtain ⟨s0, r0, rfl, rfl, g1, g2, g3, g4, g5, g6, g7, S, hB0, hB1⟩ := hcut
          have HB := BX wc ⟨hB0, hB1⟩
          have hn1 : (mid : Int) + (m : Int) < 9223372036854775807 := by omega
          have G6 := Lib.hid g6
          have G7 := Lib.hid g7
          clear g6 g7
          go_wp2
          go_loopw [18, 19] (fun vi vj wr => ∃ i j : Nat, vi = .int .i64 i ∧ vj = .int .i64 j ∧ s0 ≤ i ∧ i ≤ j ∧ j ≤ r0 ∧ (i = s0 ∨ lt d[mid + m - i]! d[i - 1]! = false) ∧ (j = r0 ∨ lt d[mid + m - j - 1]! d[j]! = true) ∧ SW enc W blk off d wr ∧ BoxD g lb sf sb W.heap.size wr) (fun vi vj _ => (intOf vj).toNat - (intOf vi).toNat)
          case atStart => exact ⟨s0, r0, rfl, rfl, Nat.le_refl _, by omega, Nat.le_refl _, .inl rfl, .inl rfl, S, HB.out⟩
          case round =>
            clear S hB0 hB1 HB
            obtain ⟨i, j, rfl, rfl, hi, hij, hj, hI, hJ, S, hB0, hB1⟩ := hrel
            have HB := BX wr ⟨hB0, hB1⟩
            have HI := Lib.hid hI
            have HJ := Lib.hid hJ
            clear hI hJ
            by_cases hlt : i < j
            · have hc2 : (i : Int) < (j : Int) := by omega
              obtain ⟨wu, wi⟩ := HALF.out (i + j) (by omega)
              obtain ⟨h, hh⟩ : ∃ h, h = (i + j) / 2 := ⟨_, rfl⟩
              have hm5 : i ≤ h := by omega
              have hm6 : h < j := by omega
              have hhc : ((i : Int) + (j : Int)) / 2 = (h : Int) := by omega
              have hl := C.lessAt S rfl (mid + m - h - 1) h (by omega) (by omega)
              rw [show ((mid + m - h - 1 : Nat) : Int) = (mid : Int) + (m : Int) - 1 - (h : Int) by omega, ← hhc] at hl
              have HHC := Lib.hid hhc
              clear hhc hh
              cases hlv : lt d[mid + m - h - 1]! d[h]! with
              | true =>
                rw [hlv] at hl
                have HLV := Lib.hid hlv
                clear hlv
                go_wp2_with (go_at_fn g; refine hl.mono ?_; rintro e w' ⟨rfl, S', hcs⟩)
                go_roundw
                case rel => exact ⟨i, h, rfl, by rw [HHC.out], hi, by omega, by omega, HI.out, .inr HLV.out, S', HB.out.same hcs⟩
                case measure => simp [intOf]; omega
              | false =>
                rw [hlv] at hl
                have HLV := Lib.hid hlv
                clear hlv
                go_wp2_with (go_at_fn g; refine hl.mono ?_; rintro e w' ⟨rfl, S', hcs⟩)
                go_roundw
                case rel => exact ⟨h + 1, j, by rw [HHC.out]; go_num, rfl, by omega, by omega, hj, .inr (by rw [show mid + m - (h + 1) = mid + m - h - 1 by omega, show h + 1 - 1 = h by omega]; exact HLV.out), HJ.out, S', HB.out.same hcs⟩
                case measure => simp [intOf]; omega
            · obtain rfl : i = j := by omega
              have hc2 : ¬ (i : Int) < (i : Int) := by omega
              have HC : Hid (Cut lt d a m b mid i) := by
                have q6 := G6.out
                have q7 := G7.out
                refine ⟨by omega, by omega, by omega, by omega, ?_, ?_⟩
                · rcases HI.out with h | h
                  · rcases q6 with q | q
                    · exact .inl (by omega)
                    · exact .inr (.inl (by omega))
                  · exact .inr (.inr h)
                · rcases HJ.out with h | h
                  · rcases q7 with q | q
                    · exact .inl (by omega)
                    · exact .inr (.inl (by omega))
                  · exact .inr (.inr h)
              have Ci := C.on S rfl
              have he1 : (mid : Int) + (m : Int) - (i : Int) = ((mid + m - i : Nat) : Int) := by omega
              have HE1 := Lib.hid he1
              have k1 : a ≤ i := by omega
              have k2 : i ≤ m := by omega
              have k3 : i ≤ mid := by omega
              have k4 : mid + m - i ≤ b := by omega
              have k5 : mid ≤ mid + m - i := by omega
              clear he1 G6 G7 HI HJ g1 g2 g3 g4 g5 hi hj
              obtain ⟨g1, hg1⟩ : ∃ g1, g1 = (decide (i < m) && decide (m < mid + m - i)) := ⟨_, rfl⟩
              go_upto_region 40 with fail
              go_cut [145] (fun v wx => v = .bool g1 ∧ wx = wr)
              case first =>
                by_cases hA1 : i < m
                · have hc3 : (i : Int) < (m : Int) := by omega
                  by_cases hA2 : m < mid + m - i
                  · have hc4 : (m : Int) < (mid : Int) + (m : Int) - (i : Int) := by omega
                    have hg2 : Hid (true = g1) := by show _ = _; rw [hg1, decide_eq_true hA1, decide_eq_true hA2]; rfl
                    clear hg1
                    go_wp2
                    go_meet
                    exact ⟨by rw [← hg2.out], rfl⟩
                  · have hc4 : ¬ (m : Int) < (mid : Int) + (m : Int) - (i : Int) := by omega
                    have hg2 : Hid (false = g1) := by show _ = _; rw [hg1, decide_eq_true hA1, decide_eq_false hA2]; rfl
                    clear hg1
                    go_wp2
                    go_meet
                    exact ⟨by rw [← hg2.out], rfl⟩
                · have hc3 : ¬ (i : Int) < (m : Int) := by omega
                  have hg2 : Hid (false = g1) := by show _ = _; rw [hg1, decide_eq_false hA1]; rfl
                  clear hg1
                  go_wp2
                  go_meet
                  exact ⟨by rw [← hg2.out], rfl⟩
              case rest =>
              obtain ⟨rfl, rfl⟩ := hcut
              go_upto_if 145 with fail
              go_cut [] (fun wx => ∃ d1, SW enc W blk off d1 wx ∧ Rot d i m (mid + m - i) d1 ∧ BoxD g lb sf sb W.heap.size wx)
              case first =>
                rcases g1 with _ | _
                · have hA : ¬ (i < m ∧ m < mid + m - i) := fun h => by rw [decide_eq_true h.1, decide_eq_true h.2] at hg1; cases hg1
                  clear hg1
                  go_wp2
                  go_meet
                  refine ⟨d, S, ?_, HB.out⟩
                  by_cases hA1 : i < m
                  · rw [show mid + m - i = m by omega]; exact Rot.self_r d i m
                  · obtain rfl : i = m := by omega
                    exact Rot.self_l d _ _
                · obtain ⟨hA1, hA2⟩ : i < m ∧ m < mid + m - i := by
                    have := hg1.symm
                    rw [Bool.and_eq_true, decide_eq_true_eq, decide_eq_true_eq] at this
                    exact this
                  clear hg1
                  have hr := rotate_s L42 Ci i m (mid + m - i) hA1 hA2 (by omega)
                  rw [← HE1.out] at hr
                  go_wp2_with (go_at_fn (ρ.f 42); refine hr.mono ?_; rintro e w1 ⟨rfl, d1, S1, R1⟩)
                  go_meet
                  exact ⟨d1, swTr S S1 C.bl R1.size, R1, HB.out.tr S1 hbn⟩
              case rest =>
                clear S hB0 hB1 HB Ci hg1
                obtain ⟨d1, S1, R1, hB0, hB1⟩ := hcut
                have hsz1 := R1.size
                have HP1 : Hid (PermIn a b d d1) := permIn_in R1.perm k1 k4 hb
                obtain ⟨r1, r2, r3, r4, r5⟩ := cut_runs hO (by omega) (by omega) (by omega) HS1.out HS2.out HC.out R1
                have R1h := Lib.hid r1
                have R2h := Lib.hid r2
                have R3h := Lib.hid r3
                have R4h := Lib.hid r4
                have R5h := Lib.hid r5
                have HB := BX wc ⟨hB0, hB1⟩
                have C1 := C.on S1 hsz1
                clear r1 r2 r3 r4 r5 HC
                obtain ⟨w1, hw1⟩ : ∃ w1 : World, w1 = wc := ⟨_, rfl⟩
                subst hw1
                obtain ⟨g2, hg2⟩ : ∃ g2, g2 = (decide (a < i) && decide (i < mid)) := ⟨_, rfl⟩
                go_upto_region 42 with fail
                go_cut [158] (fun v wx => v = .bool g2 ∧ wx = w1)
                case first =>
                  by_cases hA1 : a < i
                  · have hc3 : (a : Int) < (i : Int) := by omega
                    by_cases hA2 : i < mid
                    · have hc4 : (i : Int) < (mid : Int) := by omega
                      have hg3 : Hid (true = g2) := by show _ = _; rw [hg2, decide_eq_true hA1, decide_eq_true hA2]; rfl
                      clear hg2
                      go_wp2
                      go_meet
                      exact ⟨by rw [← hg3.out], rfl⟩
                    · have hc4 : ¬ (i : Int) < (mid : Int) := by omega
                      have hg3 : Hid (false = g2) := by show _ = _; rw [hg2, decide_eq_true hA1, decide_eq_false hA2]; rfl
                      clear hg2
                      go_wp2
                      go_meet
                      exact ⟨by rw [← hg3.out], rfl⟩
                  · have hc3 : ¬ (a : Int) < (i : Int) := by omega
                    have hg3 : Hid (false = g2) := by show _ = _; rw [hg2, decide_eq_false hA1]; rfl
                    clear hg2
                    go_wp2
                    go_meet
                    exact ⟨by rw [← hg3.out], rfl⟩
                case rest =>
                obtain ⟨rfl, rfl⟩ := hcut
                go_upto_if 158 with fail
                go_cut [] (fun wx => ∃ d2, SW enc W blk off d2 wx ∧ PermIn a mid d1 d2 ∧ SortedIn lt a mid d2 ∧ BoxD g lb sf sb W.heap.size wx)
                case first =>
                  rcases g2 with _ | _
                  · have hA : ¬ (a < i ∧ i < mid) := fun h => by rw [decide_eq_true h.1, decide_eq_true h.2] at hg2; cases hg2
                    clear hg2
                    go_wp2
                    go_meet
                    refine ⟨d1, S1, permIn_refl _ _ _, ?_, HB.out⟩
                    by_cases hA1 : a < i
                    · rw [show mid = i by omega]; exact R1h.out
                    · exact sorted_part R2h.out (by omega) (Nat.le_refl _)
                  · obtain ⟨hA1, hA2⟩ : a < i ∧ i < mid := by
                      have := hg2.symm
                      rw [Bool.and_eq_true, decide_eq_true_eq, decide_eq_true_eq] at this
                      exact this
                    clear hg2
                    have hr := ih d1 _ C1 a i mid (by omega) hA1 hA2 (by omega) R1h.out R2h.out
                    go_wp2_with (go_at_fn (ρ.f 30); refine hr.mono ?_; rintro e w2 ⟨rfl, d2, S2, P2, Q2⟩)
                    go_meet
                    exact ⟨d2, swTr S1 S2 C.bl P2.1, P2, Q2, HB.out.tr S2 hbn⟩
                case rest =>
                  clear hB0 hB1 HB C1 hg2
                  obtain ⟨d2, S2, P2, Q2, hB0, hB1⟩ := hcut
                  have hsz2 : d2.size = d.size := P2.1.trans hsz1
                  have HB := BX wc ⟨hB0, hB1⟩
                  have C2 := C.on S2 hsz2
                  have r3 := sorted_out R3h.out P2 (.inr (Nat.le_refl _))
                  have r4 := sorted_out R4h.out P2 (.inr k5)
                  have HP2 := Lib.hid P2
                  have HQ2 := Lib.hid Q2
                  have R3i := Lib.hid r3
                  have R4i := Lib.hid r4
                  clear P2 Q2 r3 r4 S1
                  obtain ⟨w2, hw2⟩ : ∃ w2 : World, w2 = wc := ⟨_, rfl⟩
                  subst hw2
                  have fin : ∀ d3 w3, SW enc W blk off d3 w3 → PermIn mid b d2 d3 → SortedIn lt mid b d3 → ∃ d', SW enc W blk off d' w3 ∧ PermIn a b d d' ∧ SortedIn lt a b d' := fun d3 w3 S3 P3 Q3 => by
                    have hh := halves (by omega) (by omega) (by omega) R5h.out HP2.out HQ2.out P3 Q3
                    exact ⟨d3, S3, permIn_trans _ _ _ _ _ HP1.out hh.1, hh.2⟩
                  have FIN := Lib.hid fin
                  clear fin
                  by_cases hA1 : mid < mid + m - i
                  · have hc3 : (mid : Int) < (mid : Int) + (m : Int) - (i : Int) := by omega
                    by_cases hA2 : mid + m - i < b
                    · have hc4 : (mid : Int) + (m : Int) - (i : Int) < (b : Int) := by omega
                      have hr := ih d2 w2 C2 mid (mid + m - i) b (by omega) hA1 hA2 (by omega) R3i.out R4i.out
                      rw [← HE1.out] at hr
                      go_wp2_with (go_at_fn (ρ.f 30); refine hr.mono ?_; rintro e w3 ⟨rfl, d3, S3, P3, Q3⟩)
                      go_end0
                      exact ⟨rfl, FIN.out d3 _ (swTr S2 S3 C.bl P3.1) P3 Q3⟩
                    · have hc4 : ¬ (mid : Int) + (m : Int) - (i : Int) < (b : Int) := by omega
                      go_wp2
                      go_end0
                      exact ⟨rfl, FIN.out d2 _ S2 (permIn_refl _ _ _) (by rw [show b = mid + m - i by omega]; exact R3i.out)⟩
                  · have hc3 : ¬ (mid : Int) < (mid : Int) + (m : Int) - (i : Int) := by omega
                    go_wp2
                    go_end0
                    exact ⟨rfl, FIN.out d2 _ S2 (permIn_refl _ _ _) (sorted_part R4i.out (by omega) (Nat.le_refl _))⟩
end
end Go.Proofs.YtlncpabnlnipoaaGreat
