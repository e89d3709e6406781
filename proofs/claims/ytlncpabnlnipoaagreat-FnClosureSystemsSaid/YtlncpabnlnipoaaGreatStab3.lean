
/- Walks: sort.stable_func, sort.SliceStable at any number of elements. Printed by genstab.py. -/
import Derived.Test.YtlncpabnlnipoaaGreatStab2
namespace Go.Proofs.YtlncpabnlnipoaaGreat
open Go.Shelf Go.RowKit Go.Lib Go.Sort
section
variable {P : Program} {ρ : Ren} {α : Type} [Inhabited α] {enc : α → Value} {lt : α → α → Bool} {g : Nat} {lb : Array Value} {sf : Nat} {sb : Array Value} {blk off : Nat} {d e f : Array α} {W W1 W2 : World}
theorem ins_s (hO : SWO lt) (L : LaysGt.n15 P ρ) (C : SCtx P enc lt g lb sf sb blk off d W) (a b : Nat) (hab : a ≤ b) (hb : b ≤ d.size) :
    Calls P (ρ.f 29) #[.agg #[.func (.func g) #[] lb, .func (.func sf) #[] sb], .int .i64 a, .int .i64 b] W fun e w' => e = .returned (.tuple #[]) ∧ ∃ d', SW enc W blk off d' w' ∧ PermIn a b d d' ∧ SortedIn lt a b d' := by
  have LI : LaysGg.n26 P ρ.viaGt := ({ L with } : LaysGt.n29 P ρ).elder
  have hc : Calls P (ρ.f 29) #[.agg #[.func (.func g) #[] lb, .func (.func sf) #[] sb], .int .i64 a, .int .i64 b] W fun e w' => e = .returned (.tuple #[]) ∧ ∃ n os, w' = sortWorld enc W blk off n (Sort.insertionSort lt d a b) os :=
    Any.insertionSort_func_w LI enc lt g lb sf sb blk off a b d W C.eg C.less C.swap C.hold C.bl hab hb C.sz
  have hh := insertionSort_holds hO d a b hab hb
  exact hc.mono fun _ _ ⟨h1, n, os, h2⟩ => ⟨h1, _, ⟨n, os, h2⟩, hh.1, hh.2⟩
set_option linter.unusedVariables false in
set_option maxHeartbeats 4000000 in
set_option maxRecDepth 100000 in
theorem stable_s (hO : SWO lt) (L : LaysGt.n15 P ρ) (C : SCtx P enc lt g lb sf sb blk off d W) (hsm : d.size ≤ 1099511627776) :
    Calls P (ρ.f 15) #[.agg #[.func (.func g) #[] lb, .func (.func sf) #[] sb], .int .i64 d.size] W fun e w' => e = .returned (.tuple #[]) ∧ ∃ d', SW enc W blk off d' w' ∧ PermIn 0 d.size d d' ∧ SortedIn lt 0 d.size d' := by
  have mixed := L.mixed; have t0 := L.t0; have a0 := L.a0; have z0 := L.z0; have v0 := L.v0; have t3 := L.t3; have a3 := L.a3; have z3 := L.z3; have v3 := L.v3; have t4 := L.t4; have a4 := L.a4; have z4 := L.z4; have v4 := L.v4; have t26 := L.t26; have a26 := L.a26; have z26 := L.z26; have v26 := L.v26; have t38 := L.t38; have a38 := L.a38; have z38 := L.z38; have v38 := L.v38; have t42 := L.t42; have a42 := L.a42; have z42 := L.z42; have v42 := L.v42; have t47 := L.t47; have a47 := L.a47; have z47 := L.z47; have v47 := L.v47
  have u42 := run_underlying L.t42
  have S0 : SW enc W blk off d (W.alloc (.cells #[.func (.func g) #[] lb, .func (.func sf) #[] sb] (ρ.t 42))) := C.start.alloc _
  have B0 : BoxD g lb sf sb W.heap.size (W.alloc (.cells #[.func (.func g) #[] lb, .func (.func sf) #[] sb] (ρ.t 42))) := BoxD.new W
  have hbn : W.heap.size ≠ blk := by have := C.bl; omega
  have BX : ∀ w', BoxD g lb sf sb W.heap.size w' → Hid (BoxD g lb sf sb W.heap.size w') := fun _ h => h
  have e29 : ∀ args w, (callFunc (ρ.f 29) args).run P w = .ok (.enter (ρ.f 29) args) w := enters_of L.f29 (by kernel_rfl) rfl
  have e30 : ∀ args w, (callFunc (ρ.f 30) args).run P w = .ok (.enter (ρ.f 30) args) w := enters_of L.f30 (by kernel_rfl) rfl
  have L30 : LaysGt.n30 P ρ := { L with }
  obtain ⟨n, hn⟩ : ∃ n, n = d.size := ⟨_, rfl⟩
  rw [← hn] at hsm ⊢
  have HN := Lib.hid hn
  clear hn
  go_enter L.f15, BodyGt.n15_ntmps ρ
  go_wp2
  go_loopw [5, 6] (fun va vb wr => ∃ (x : Nat) (dk : Array α), va = .int .i64 x ∧ vb = .int .i64 ((x : Int) + 20) ∧ x ≤ n ∧ SW enc W blk off dk wr ∧ PermIn 0 n d dk ∧ DoneR lt 20 x n dk ∧ BoxD g lb sf sb W.heap.size wr) (fun va _ _ => n - (intOf va).toNat)
  case atStart => exact ⟨0, d, rfl, rfl, Nat.zero_le _, S0, permIn_refl _ _ _, DoneR.zero _ _ _, B0⟩
  case round =>
    clear S0 B0
    obtain ⟨x, dk, rfl, rfl, hx, S, PM, DR, hB0, hB1⟩ := hrel
    have HB := BX wr ⟨hB0, hB1⟩
    have HPM := Lib.hid PM
    have HDR := Lib.hid DR
    have hds : dk.size = d.size := PM.1
    have Ck := C.on S hds
    have hnd := HN.out
    clear PM DR
    by_cases hlt : x + 20 ≤ n
    · have hc1 : (x : Int) + 20 ≤ (n : Int) := by omega
      have hi := ins_s hO L Ck x (x + 20) (by omega) (by omega)
      rw [show ((x + 20 : Nat) : Int) = (x : Int) + 20 by omega] at hi
      have hds2 := Lib.hid hds
      clear hnd hds
      go_wp2_with (go_at_fn (ρ.f 29); refine hi.mono ?_; rintro e w1 ⟨rfl, dk', S', P', Q'⟩)
      go_roundw
      case rel => exact ⟨x + 20, dk', by go_num, by go_num, hlt, swTr S S' C.bl P'.1, permIn_trans _ _ _ _ _ HPM.out (permIn_in P' (Nat.zero_le _) hlt (by rw [hds2.out, HN.out]; exact Nat.le_refl _)), HDR.out.step P' (by rw [show min (x + 20) n = x + 20 by omega]; exact Q'), HB.out.tr S' hbn⟩
      case measure => simp [intOf]; omega
    · have hc1 : ¬ (x : Int) + 20 ≤ (n : Int) := by omega
      have hi := ins_s hO L Ck x n (by omega) (by omega)
      have hds2 := Lib.hid hds
      clear hnd hds
      go_wp2_with (go_at_fn (ρ.f 29); refine hi.mono ?_; rintro e w1 ⟨rfl, d1, S1', P1, Q1⟩)
      have S1 := swTr S S1' C.bl P1.1
      have HB1 := BX _ (HB.out.tr S1' hbn)
      have PM1 : PermIn 0 n d d1 := permIn_trans _ _ _ _ _ HPM.out (permIn_in P1 (Nat.zero_le _) (Nat.le_refl _) (by rw [hds2.out, HN.out]; exact Nat.le_refl _))
      have RU : Runs lt 20 0 n d1 := HDR.out d1 (fun i hi => P1.2.1 i (by omega)) (Runs.one Q1 (by omega))
      clear S S1' HB hB0 hB1 Ck P1 Q1 HDR HPM hds2 hi
      go_loopw [4] (fun vs wr => ∃ (bs : Nat) (dk : Array α), vs = .int .i64 bs ∧ 1 ≤ bs ∧ bs ≤ 2199023255572 ∧ SW enc W blk off dk wr ∧ PermIn 0 n d dk ∧ Runs lt bs 0 n dk ∧ BoxD g lb sf sb W.heap.size wr) (fun vs _ => n - (intOf vs).toNat)
      case atStart => exact ⟨20, d1, rfl, by omega, by omega, S1, PM1, RU, HB1.out⟩
      case round =>
        clear S1 PM1 RU HB1
        obtain ⟨bs, dk, rfl, hb1, hb2, S, PM, RU, hB0, hB1⟩ := hrel
        have HB := BX wr ⟨hB0, hB1⟩
        have HRU := Lib.hid RU
        have HPM := Lib.hid PM
        clear RU PM
        by_cases hlt2 : bs < n
        · have hc2 : (bs : Int) < (n : Int) := by omega
          go_wp2
          go_loopw [5, 6] (fun va vb wr => ∃ (x : Nat) (dj : Array α), va = .int .i64 x ∧ vb = .int .i64 ((x : Int) + 2 * (bs : Int)) ∧ x ≤ n ∧ SW enc W blk off dj wr ∧ PermIn 0 n d dj ∧ DoneR lt (2 * bs) x n dj ∧ Runs lt bs x n dj ∧ BoxD g lb sf sb W.heap.size wr) (fun va _ _ => n - (intOf va).toNat)
          case atStart => exact ⟨0, dk, rfl, by go_num, Nat.zero_le _, S, HPM.out, DoneR.zero _ _ _, HRU.out, HB.out⟩
          case round =>
            clear S hB0 hB1 HB HRU HPM
            obtain ⟨x, dj, rfl, rfl, hx2, S, PM, DR, RU, hB0, hB1⟩ := hrel
            have HB := BX wr ⟨hB0, hB1⟩
            have HPM := Lib.hid PM
            have HDR := Lib.hid DR
            have HRU := Lib.hid RU
            have hds : dj.size = d.size := PM.1
            have Ck := C.on S hds
            have hnd := HN.out
            have r1 := RU.head
            have r2 := RU.next.head
            clear PM DR RU
            by_cases hle : x + 2 * bs ≤ n
            · have hc3 : (x : Int) + 2 * (bs : Int) ≤ (n : Int) := by omega
              have hr := symMerge_s hO L30 (2 * bs) dj wr Ck x (x + bs) (x + 2 * bs) (by omega) (by omega) (by omega) (by omega) (by rw [show min (x + bs) n = x + bs by omega] at r1; exact r1) (by rw [show min (x + bs + bs) n = x + 2 * bs by omega] at r2; exact r2)
              rw [show ((x + bs : Nat) : Int) = (x : Int) + (bs : Int) by omega, show ((x + 2 * bs : Nat) : Int) = (x : Int) + 2 * (bs : Int) by omega] at hr
              have hds2 := Lib.hid hds
              clear hnd hds r1 r2
              go_wp2_with (go_at_fn (ρ.f 30); refine hr.mono ?_; rintro e w1 ⟨rfl, dj', S', P', Q'⟩)
              go_roundw
              case rel =>
                refine ⟨x + 2 * bs, dj', by go_num, by go_num, hle, swTr S S' C.bl P'.1, permIn_trans _ _ _ _ _ HPM.out (permIn_in P' (Nat.zero_le _) hle (by rw [hds2.out, HN.out]; exact Nat.le_refl _)), HDR.out.step P' (by rw [show min (x + 2 * bs) n = x + 2 * bs by omega]; exact Q'), ?_, HB.out.tr S' hbn⟩
                have := HRU.out.next.next
                rw [show x + bs + bs = x + 2 * bs by omega] at this
                exact this.out P' (Nat.le_refl _)
              case measure => simp [intOf]; omega
            · have hc3 : ¬ (x : Int) + 2 * (bs : Int) ≤ (n : Int) := by omega
              by_cases hmn : x + bs < n
              · have hc4 : (x : Int) + (bs : Int) < (n : Int) := by omega
                have hr := symMerge_s hO L30 (2 * bs) dj wr Ck x (x + bs) n (by omega) (by omega) hmn (by omega) (by rw [show min (x + bs) n = x + bs by omega] at r1; exact r1) (by rw [show min (x + bs + bs) n = n by omega] at r2; exact r2)
                rw [show ((x + bs : Nat) : Int) = (x : Int) + (bs : Int) by omega] at hr
                have hds2 := Lib.hid hds
                clear hnd hds r1 r2
                go_wp2_with (go_at_fn (ρ.f 30); refine hr.mono ?_; rintro e w1 ⟨rfl, dj', S', P', Q'⟩)
                go_roundw
                case rel =>
                  exact ⟨bs * 2, dj', by go_num, by omega, by omega, swTr S S' C.bl P'.1, permIn_trans _ _ _ _ _ HPM.out (permIn_in P' (Nat.zero_le _) (Nat.le_refl _) (by rw [hds2.out, HN.out]; exact Nat.le_refl _)), by rw [Nat.mul_comm]; exact HDR.out dj' (fun i hi => P'.2.1 i (by omega)) (Runs.one Q' (by omega)), HB.out.tr S' hbn⟩
                case measure => simp [intOf]; omega
              · have hc4 : ¬ (x : Int) + (bs : Int) < (n : Int) := by omega
                have R1 := Lib.hid r1
                clear hnd hds r1 r2
                go_wp2
                go_roundw
                case rel =>
                  exact ⟨bs * 2, dj, by go_num, by omega, by omega, S, HPM.out, by rw [Nat.mul_comm]; exact HDR.out dj (fun i _ => rfl) (Runs.one (by have := R1.out; rwa [show min (x + bs) n = n by omega] at this) (by omega)), HB.out⟩
                case measure => simp [intOf]; omega
        · have hc2 : ¬ (bs : Int) < (n : Int) := by omega
          go_wp2
          go_end0
          have := HRU.out.head
          rw [show min (0 + bs) n = n by omega] at this
          exact ⟨rfl, dk, S, HPM.out, this⟩
end
end Go.Proofs.YtlncpabnlnipoaaGreat
