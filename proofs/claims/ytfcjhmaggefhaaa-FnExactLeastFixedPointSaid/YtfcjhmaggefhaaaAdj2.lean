
/- Walks: greatest, adjoint. -/
import Derived.Test.YtfcjhmaggefhaaaAdj
namespace Go.Proofs.Ytfcjhmaggefhaaa
open Go.RowKit

def belowAll (F : Nat → Nat → Bool) (xs : List Int) (x : Int) : Bool := xs.all fun z => F z.toNat x.toNat
def grI (F : Nat → Nat → Bool) (xs : List Int) : Int := (xs.find? (belowAll F xs)).getD (-1)
theorem all_take_succ {f : Int → Bool} {xs : List Int} {q : Nat} {v : Int} (h : xs[q]? = some v) : (xs.take (q + 1)).all f = ((xs.take q).all f && f v) := by
  rw [List.take_add_one, h]
  simp
theorem find_at {P : Int → Bool} : ∀ {xs : List Int} {k : Nat} {v : Int}, (∀ j < k, ∀ u, xs[j]? = some u → P u = false) → xs[k]? = some v → P v = true → xs.find? P = some v
  | [], k, v, _, h, _ => by simp at h
  | x :: xs, 0, v, _, h, h2 => by simp at h; subst h; simp [h2]
  | x :: xs, k + 1, v, h0, h, h2 => by
    have hx := h0 0 (by omega) x (by simp)
    rw [List.find?_cons, hx]
    exact find_at (fun j hj u hu => h0 (j + 1) (Nat.succ_lt_succ hj) u (by simpa using hu)) (by simpa using h) h2
theorem find_none {P : Int → Bool} {xs : List Int} (h : ∀ j < xs.length, ∀ u, xs[j]? = some u → P u = false) : xs.find? P = none := by
  rw [List.find?_eq_none]
  intro x hx
  obtain ⟨j, hj⟩ := List.getElem?_of_mem hx
  rw [h j (List.getElem?_eq_some_iff.1 hj).1 x hj]
  decide
theorem grI_mem {F : Nat → Nat → Bool} {xs : List Int} {n : Nat} (h : ∀ x ∈ xs, 0 ≤ x ∧ x ≤ (n : Int) - 1) : grI F xs = -1 ∨ (0 ≤ grI F xs ∧ grI F xs ≤ (n : Int) - 1 ∧ grI F xs ∈ xs) := by
  unfold grI
  rcases e : xs.find? (belowAll F xs) with _ | v
  · exact .inl rfl
  · have := h v (List.mem_of_find?_eq_some e)
    exact .inr ⟨this.1, this.2, List.mem_of_find?_eq_some e⟩

set_option maxRecDepth 20000 in
set_option maxHeartbeats 2000000 in
theorem greatest_any (A C : Option Addr) (n c l e : Nat) (F : Nat → Nat → Bool) (xs : List Int) (w : World) (h : RdL (RV RB) w A n (tab n F)) (hf : RdL RI w C l xs) (hin : ∀ x ∈ xs, 0 ≤ x ∧ x ≤ (n : Int) - 1) :
    Calls Try.prog 87 #[.slice A n c, .slice C l e] w (Qt w (.int .i64 (grI F xs))) := by
  have hle := h.le
  have hle' := hf.le
  have HIN := Lib.hid hin
  have HL := Lib.hid hf.len
  clear hin
  go_enter Try.func87, Try.ntmps87
  go_wp2
  go_loopw [12] (fun i wr => ∃ k : Nat, k ≤ l ∧ i = .int .i64 k ∧ Hid (∀ j < k, ∀ u, xs[j]? = some u → belowAll F xs u = false) ∧ Drawn w wr) (fun i _ => l - (intOf i).toNat)
  case atStart => exact ⟨0, Nat.zero_le _, rfl, fun j hj => absurd hj (by omega), Drawn.zero _⟩
  case round =>
    obtain ⟨k, hk, rfl, HH, z, rfl⟩ := hrel
    by_cases hlt : k < l
    · have hk0 : (0 : Int) ≤ (k : Int) := by omega
      have hk1 : (k : Int) < (l : Int) := by omega
      obtain ⟨fb, fo, rfl⟩ := hf.addr hlt
      obtain ⟨v, x', hcf, ⟨rfl, -⟩, -, hx⟩ := hf.at' hlt
      have hxm := HIN.out x' (List.mem_of_getElem? hx)
      obtain ⟨x', rfl⟩ := Int.eq_ofNat_of_zero_le hxm.1
      have hx0 : (0 : Int) ≤ (x' : Int) := by omega
      have hx1 : (x' : Int) < (n : Int) := by omega
      have hxn : x' < n := by omega
      obtain ⟨b2, o2, rfl⟩ := h.addr hxn
      have HX := Lib.hid hx
      clear hx hxm
      go_wp2
      go_loopw [7, 18] (fun b i wr => ∃ q : Nat, q ≤ l ∧ i = .int .i64 q ∧ b = .bool ((xs.take q).all fun z => F z.toNat x') ∧ Drawn w wr) (fun _ i _ => l - (intOf i).toNat)
      case atStart => exact ⟨0, Nat.zero_le _, rfl, rfl, (by first | exact Drawn.zero _ | exact Drawn.at_ _ _ | exact (Drawn.at_ _ _).more _ | exact ((Drawn.at_ _ _).more _).more _)⟩
      case round =>
        obtain ⟨q, hq, rfl, rfl, z, rfl⟩ := hrel
        by_cases hltq : q < l
        · obtain ⟨v, y', hcg, ⟨rfl, -⟩, -, hy⟩ := hf.at' hltq
          have hym := HIN.out y' (List.mem_of_getElem? hy)
          obtain ⟨y', rfl⟩ := Int.eq_ofNat_of_zero_le hym.1
          have hy0 : (0 : Int) ≤ (y' : Int) := by omega
          have hy1 : (y' : Int) < (n : Int) := by omega
          have hq0 : (0 : Int) ≤ (q : Int) := by omega
          have hq1 : (q : Int) < (l : Int) := by omega
          obtain ⟨r2, p2, d2, hc2, hall2⟩ := h.rowT (show y' < n by omega)
          have hxy := hall2 x' hxn
          have HS := Lib.hid (all_take_succ (f := fun z => F z.toNat x') hy)
          clear hall2 hy hym
          obtain ⟨B, HB⟩ : ∃ B, Hid (((xs.take q).all fun z => F z.toNat x') = B) := ⟨_, rfl⟩
          rw [HB.out]
          rcases B with _ | _
          · go_wp2
            go_roundw
            case rel => exact ⟨q + 1, by omega, by go_num, by rw [HS.out, HB.out]; rfl, (by first | exact Drawn.zero _ | exact Drawn.at_ _ _ | exact (Drawn.at_ _ _).more _ | exact ((Drawn.at_ _ _).more _).more _)⟩
            case measure => simp [intOf]; omega
          · go_wp2
            go_roundw
            case rel => exact ⟨q + 1, by omega, by go_num, by rw [HS.out, HB.out]; rfl, (by first | exact Drawn.zero _ | exact Drawn.at_ _ _ | exact (Drawn.at_ _ _).more _ | exact ((Drawn.at_ _ _).more _).more _)⟩
            case measure => simp [intOf]; omega
        · obtain rfl : q = l := by omega
          have hlt' : ¬ (q : Int) < (q : Int) := by omega
          have HT : Hid (((xs.take q).all fun z => F z.toNat x') = belowAll F xs x') := by
            show _ = _
            rw [List.take_of_length_le (by rw [HL.out]; exact Nat.le_refl _)]
            rfl
          obtain ⟨B, HB⟩ : ∃ B, Hid (((xs.take q).all fun z => F z.toNat x') = B) := ⟨_, rfl⟩
          rw [HB.out]
          rcases B with _ | _
          · go_wp2
            go_roundw
            case rel => exact ⟨k + 1, by omega, by go_num, fun j hj u hu => by
              rcases Nat.lt_or_ge j k with h1 | h1
              · exact HH.out j h1 u hu
              · obtain rfl : j = k := by omega
                rw [HX.out] at hu
                injection hu with hu
                rw [← hu, ← HT.out, HB.out], (by first | exact Drawn.zero _ | exact Drawn.at_ _ _ | exact (Drawn.at_ _ _).more _ | exact ((Drawn.at_ _ _).more _).more _)⟩
            case measure => simp [intOf]; omega
          · go_wp2
            go_ret
            exact ⟨by
              have := find_at HH.out HX.out (by rw [← HT.out, HB.out])
              unfold grI
              rw [this]
              rfl, (by first | exact Drawn.zero _ | exact Drawn.at_ _ _ | exact (Drawn.at_ _ _).more _ | exact ((Drawn.at_ _ _).more _).more _)⟩
    · obtain rfl : k = l := by omega
      have hlt' : ¬ (k : Int) < (k : Int) := by omega
      have HN : Hid (grI F xs = -1) := by
        show _ = _
        unfold grI
        rw [find_none (fun j hj u hu => HH.out j (by rw [← HL.out]; exact hj) u hu)]
        rfl
      go_wp2
      go_ret
      exact ⟨by rw [HN.out]; rfl, (by first | exact Drawn.zero _ | exact Drawn.at_ _ _ | exact (Drawn.at_ _ _).more _ | exact ((Drawn.at_ _ _).more _).more _)⟩

def AdjXY (F G : Nat → Nat → Bool) (fs gs : List Int) (x y : Nat) : Prop := G (fAt fs x) y = F x (fAt gs y)
def AdjP (n m : Nat) (F G : Nat → Nat → Bool) (fs gs : List Int) : Prop := ∀ x < n, ∀ y < m, AdjXY F G fs gs x y
theorem AdjXY.yes {F G : Nat → Nat → Bool} {fs gs : List Int} {x y x' y' : Nat} {a b : Bool} (hx : fAt fs x = x') (hy : fAt gs y = y') (h1 : G x' y = a) (h2 : F x y' = b) (h : a = b) : AdjXY F G fs gs x y := by
  unfold AdjXY; rw [hx, hy, h1, h2]; exact h
theorem AdjXY.no {F G : Nat → Nat → Bool} {fs gs : List Int} {x y x' y' : Nat} {a b : Bool} (hx : fAt fs x = x') (hy : fAt gs y = y') (h1 : G x' y = a) (h2 : F x y' = b) (h : a ≠ b) : ¬ AdjXY F G fs gs x y := by
  unfold AdjXY; rw [hx, hy, h1, h2]; exact h

set_option maxRecDepth 20000 in
set_option maxHeartbeats 4000000 in
theorem adjoint_any (A B C D : Option Addr) (n m c d e d5 : Nat) (F G : Nat → Nat → Bool) (fs gs : List Int) (w : World) (h : RdL (RV RB) w A n (tab n F)) (h' : RdL (RV RB) w B m (tab m G)) (hf : RdL RI w C n fs) (hg : RdL RI w D m gs) (hin : ∀ x ∈ fs, 0 ≤ x ∧ x ≤ (m : Int) - 1) (hin2 : ∀ x ∈ gs, 0 ≤ x ∧ x ≤ (n : Int) - 1) :
    Calls Try.prog 90 #[.slice A n c, .slice B m d, .slice C n e, .slice D m d5] w (Qt w (.bool (tt (AdjP n m F G fs gs)))) := by
  have hle := h.le
  have hle' := h'.le
  have HIN := Lib.hid hin
  have HIN2 := Lib.hid hin2
  clear hin hin2
  go_enter Try.func90, Try.ntmps90
  go_wp2
  go_loopw [13] (fun i wr => ∃ k : Nat, k ≤ n ∧ i = .int .i64 k ∧ Hid (∀ x < k, ∀ y < m, AdjXY F G fs gs x y) ∧ Drawn w wr) (fun i _ => n - (intOf i).toNat)
  case atStart => exact ⟨0, Nat.zero_le _, rfl, upto0, Drawn.zero _⟩
  case round =>
    obtain ⟨k, hk, rfl, HH, z, rfl⟩ := hrel
    by_cases hlt : k < n
    · have hk0 : (0 : Int) ≤ (k : Int) := by omega
      have hk1 : (k : Int) < (n : Int) := by omega
      obtain ⟨b, o, rfl⟩ := h.addr hlt
      obtain ⟨fb, fo, rfl⟩ := hf.addr hlt
      obtain ⟨r, p, dd, hc1, hall⟩ := h.rowT hlt
      obtain ⟨v, x', hcf, ⟨rfl, -⟩, -, hx⟩ := hf.at' hlt
      have hxm := HIN.out x' (List.mem_of_getElem? hx)
      obtain ⟨x', rfl⟩ := Int.eq_ofNat_of_zero_le hxm.1
      have hx0 : (0 : Int) ≤ (x' : Int) := by omega
      have hx1 : (x' : Int) < (m : Int) := by omega
      have hxn : x' < m := by omega
      obtain ⟨b2, o2, rfl⟩ := h'.addr hxn
      obtain ⟨r2, p2, d2, hc2, hall2⟩ := h'.rowT hxn
      have HX := Lib.hid (fAt_get hx)
      have HA := Lib.hid hall
      have HA2 := Lib.hid hall2
      clear hall hall2 hx hxm
      go_wp2
      go_loopw [18] (fun i wr => ∃ q : Nat, q ≤ m ∧ i = .int .i64 q ∧ Hid (∀ y < q, AdjXY F G fs gs k y) ∧ Drawn w wr) (fun i _ => m - (intOf i).toNat)
      case atStart => exact ⟨0, Nat.zero_le _, rfl, upto0, (by first | exact Drawn.zero _ | exact Drawn.at_ _ _ | exact (Drawn.at_ _ _).more _ | exact ((Drawn.at_ _ _).more _).more _)⟩
      case round =>
        obtain ⟨q, hq, rfl, HQ, z, rfl⟩ := hrel
        by_cases hltq : q < m
        · obtain ⟨gb, go, rfl⟩ := hg.addr hltq
          obtain ⟨v, y', hcg, ⟨rfl, -⟩, -, hy⟩ := hg.at' hltq
          have hym := HIN2.out y' (List.mem_of_getElem? hy)
          obtain ⟨y', rfl⟩ := Int.eq_ofNat_of_zero_le hym.1
          have hy0 : (0 : Int) ≤ (y' : Int) := by omega
          have hy1 : (y' : Int) < (n : Int) := by omega
          have hq0 : (0 : Int) ≤ (q : Int) := by omega
          have hq1 : (q : Int) < (m : Int) := by omega
          have hkq := HA.out y' (by omega)
          have hxy := HA2.out q hltq
          have HY := Lib.hid (fAt_get hy)
          clear hy hym
          rcases hF : F k y' with _ | _
          all_goals
            rcases hG : G x' q with _ | _
            all_goals
              rw [hF] at hkq
              rw [hG] at hxy
              have HF := Lib.hid hF
              have HG := Lib.hid hG
              clear hF hG
              go_wp2
              go_quiet (fail)
              go_wp2
              first
                | (go_ret
                   exact ⟨ret_bool (tt_false fun hh => AdjXY.no HX.out HY.out HG.out HF.out (by decide) (hh k hlt q hltq)), (by first | exact Drawn.zero _ | exact Drawn.at_ _ _ | exact (Drawn.at_ _ _).more _ | exact ((Drawn.at_ _ _).more _).more _)⟩)
                | (go_roundw
                   case rel => exact ⟨q + 1, by omega, by go_num, upto HQ.out (AdjXY.yes HX.out HY.out HG.out HF.out (by decide)), (by first | exact Drawn.zero _ | exact Drawn.at_ _ _ | exact (Drawn.at_ _ _).more _ | exact ((Drawn.at_ _ _).more _).more _)⟩
                   case measure => simp [intOf]; omega)
        · have HE : Hid (∀ y < m, AdjXY F G fs gs k y) := fun y hy => HQ.out y (by omega)
          clear HQ
          go_wp2
          go_roundw
          case rel => exact ⟨k + 1, by omega, by go_num, upto HH.out HE.out, (by first | exact Drawn.zero _ | exact Drawn.at_ _ _ | exact (Drawn.at_ _ _).more _ | exact ((Drawn.at_ _ _).more _).more _)⟩
          case measure => simp [intOf]; omega
    · have HE : Hid (AdjP n m F G fs gs) := fun x hx => HH.out x (by omega)
      go_wp2
      go_ret
      exact ⟨ret_bool (tt_true HE.out), (by first | exact Drawn.zero _ | exact Drawn.at_ _ _ | exact (Drawn.at_ _ _).more _ | exact ((Drawn.at_ _ _).more _).more _)⟩
end Go.Proofs.Ytfcjhmaggefhaaa
