
/- Walks: the closure of UpperAdjoint, those, greatest. -/
import Derived.Test.YtlncpabnlnipoaaMono
import Derived.Deep.RegionHeld3
import Derived.Deep.DeepCutAuto
namespace Go.Proofs.Ytlncpabnlnipoaa
open Go.RowKit

def upF (G : Nat → Nat → Bool) (fs : List Int) : Nat → Nat → Bool := fun a b => G (fAt fs a) b

set_option maxRecDepth 20000 in
set_option maxHeartbeats 1000000 in
theorem upClo_any (B C : Option Addr) (m n d e : Nat) (G : Nat → Nat → Bool) (fs : List Int) (x y g1 g2 g3 : Nat) (w : World) (hr : RdL (RV RB) w B m (tab m G)) (hf : RdL RI w C n fs) (hin : ∀ x ∈ fs, 0 ≤ x ∧ x ≤ (m : Int) - 1) (hx : x < n) (hy : y < m)
    (c1 : w.cell? ⟨g1, 0, none⟩ = some (.slice B m d)) (c2 : w.cell? ⟨g2, 0, none⟩ = some (.slice C n e)) (c3 : w.cell? ⟨g3, 0, none⟩ = some (.int .i64 y)) :
    Calls Try.prog 32 #[.int .i64 x, .pointer (some ⟨g1, 0, none⟩), .pointer (some ⟨g2, 0, none⟩), .pointer (some ⟨g3, 0, none⟩)] w (Qt w (.bool (upF G fs x y))) := by
  have hle := hr.le
  have hle' := hf.le
  obtain ⟨fb, fo, rfl⟩ := hf.addr hx
  obtain ⟨v, x', hcf, ⟨rfl, -⟩, -, hx'⟩ := hf.at' hx
  have hxm := hin x' (List.mem_of_getElem? hx')
  obtain ⟨x', rfl⟩ := Int.eq_ofNat_of_zero_le hxm.1
  have hx0 : (0 : Int) ≤ (x' : Int) := by omega
  have hx1 : (x' : Int) < (m : Int) := by omega
  have hxn : x' < m := by omega
  obtain ⟨b2, o2, rfl⟩ := hr.addr hxn
  obtain ⟨r2, p2, d2, hc2, hall2⟩ := hr.rowT hxn
  have HX := Lib.hid (fAt_get hx')
  have hkq := hall2 y hy
  have hy0 : (0 : Int) ≤ (y : Int) := by omega
  have hy1 : (y : Int) < (m : Int) := by omega
  have hk0 : (0 : Int) ≤ (x : Int) := by omega
  have hk1 : (x : Int) < (n : Int) := by omega
  clear hall2 hx' hxm hin
  go_enter Try.func32, Try.ntmps32
  go_wp2
  go_quiet (fail)
  go_wp2
  go_ret
  exact ⟨ret_bool (by unfold upF; rw [HX.out]), (by first | exact Drawn.zero _ | exact Drawn.at_ _ _ | exact (Drawn.at_ _ _).more _ | exact ((Drawn.at_ _ _).more _).more _)⟩

set_option maxRecDepth 20000 in
set_option maxHeartbeats 1000000 in
theorem those_any (A B C : Option Addr) (m n c d e : Nat) (G : Nat → Nat → Bool) (fs : List Int) (y g1 g2 g3 : Nat) (w : World) (hr : RdL (RV RB) w B m (tab m G)) (hf : RdL RI w C n fs) (hin : ∀ x ∈ fs, 0 ≤ x ∧ x ≤ (m : Int) - 1) (hn : n ≤ 1048576) (hy : y < m)
    (c1 : w.cell? ⟨g1, 0, none⟩ = some (.slice B m d)) (c2 : w.cell? ⟨g2, 0, none⟩ = some (.slice C n e)) (c3 : w.cell? ⟨g3, 0, none⟩ = some (.int .i64 y)) :
    Calls Try.prog 31 #[.slice A n c, .func (.func 32) #[] #[.pointer (some ⟨g1, 0, none⟩), .pointer (some ⟨g2, 0, none⟩), .pointer (some ⟨g3, 0, none⟩)]] w fun e w' => ∃ A' n' c', e = .returned (.slice A' n' c') ∧ (rowTo (upF G fs) y n).length = n' ∧ w'.ownsRow w.heap.size 3 1 (.slice A' n' c') n' (ints (rowTo (upF G fs) y n)) ∧ Below w.heap.size w w' := by
  have HIN := Lib.hid hin
  clear hin
  go_enter Try.func31, Try.ntmps31
  go_wp2
  go_loopw [5, 10] (fun v i wr => ∃ (k m : Nat) (acc : List Int), k ≤ n ∧ m ≤ k ∧ i = .int .i64 k ∧ acc = rowTo (upF G fs) y k ∧ Gat w.heap.size w wr v m acc) (fun _ i _ => n - (intOf i).toNat)
  case atStart => exact ⟨0, 0, [], Nat.zero_le _, Nat.le_refl _, rfl, rfl, _, _, rfl, rfl, World.ownsRow_lit _ _ _ (Nat.le_refl _) (Nat.zero_le _) rfl, below_box _ _⟩
  case round =>
    obtain ⟨k, m', acc, hk, hmk, rfl, hacc2, A', c', rfl, hacc, hown, hT⟩ := hrel
    replace hr := hr.next stab_RVB hT
    replace hf := hf.next stab_RI hT
    replace c1 := keepc hT c1
    replace c2 := keepc hT c2
    replace c3 := keepc hT c3
    have HA := Lib.hid hacc
    have HA2 := Lib.hid hacc2
    clear hacc hacc2
    by_cases hlt : k < n
    · have hbase := hT.size
      have hk1 : (k : Int) < (n : Int) := by omega
      go_wp2_with fail
      refine (upClo_any _ _ _ _ _ _ G fs k y g1 g2 g3 _ hr hf HIN.out hlt hy c1 c2 c3).mono ?_
      rintro e w2 ⟨rfl, z, rfl⟩
      rcases hb : upF G fs k y with _ | _
      · have HB := Lib.hid hb
        go_wp2_with fail
        go_roundw
        case rel => exact ⟨k + 1, m', acc, by omega, by omega, by go_num, by rw [rowTo_succ, if_neg (by rw [HB.out]; decide)]; exact HA2.out, A', c', rfl, HA.out, own_drewN hown z, below_drewN hT z⟩
        case measure => simp [intOf]; omega
      · have HB := Lib.hid hb
        have hown1 := own_drewN hown z
        have hT1 := below_drewN hT z
        have hbase1 := hT1.size
        obtain ⟨w3, hw3⟩ : ∃ w3, w3 = wr.drewN z := ⟨_, rfl⟩
        rw [← hw3] at hown1 hT1 hbase1 ⊢
        clear hw3
        go_wp2_with (at_builtin; refine app1 w3 rfl _ _ 27 3 rfl (.int .i64 0) 8 Try.underlying27 info_int rfl (by decide) w.heap.size m' c' A' (ints acc) rfl hown1 (.int .i64 k) rfl rfl (by omega) hbase1 ?_; intro A2 c2 w2 hown2 hg2 hb2)
        go_roundw
        case rel => exact ⟨k + 1, m' + 1, acc ++ [(k : Int)], by omega, by omega, by go_num, by rw [rowTo_succ, if_pos HB.out, HA2.out], A2, c2, rfl, by simp [HA.out], by rw [ints_snoc]; exact hown2, hT1.trans hb2⟩
        case measure => simp [intOf]; omega
    · obtain rfl : k = n := by omega
      have hlt' : ¬ (k : Int) < (k : Int) := by omega
      go_wp2
      go_ret
      exact ⟨_, _, _, rfl, by rw [← HA2.out]; exact HA.out, by rw [← HA2.out]; exact hown, hT⟩
end Go.Proofs.Ytlncpabnlnipoaa
namespace Go.Proofs.Ytlncpabnlnipoaa
open Go.RowKit

def belowAll (F : Nat → Nat → Bool) (xs : List Int) (x : Int) : Bool := xs.all fun z => F z.toNat x.toNat
def grI (F : Nat → Nat → Bool) (xs : List Int) : Int := (xs.find? (belowAll F xs)).getD (-1)
theorem all_take_succ {f : Int → Bool} {xs : List Int} {q : Nat} {v : Int} (h : xs[q]? = some v) : (xs.take (q + 1)).all f = ((xs.take q).all f && f v) := by
  rw [List.take_add_one, h]
  simp
theorem find_at {P : Int → Bool} : ∀ {xs : List Int} {k : Nat} {v : Int}, (∀ j < k, ∀ u, xs[j]? = some u → P u = false) → xs[k]? = some v → P v = true → xs.find? P = some v
  | [], k, v, _, h, _ => by simp at h
  | x :: xs, 0, v, _, h, h2 => by simp at h; subst h; simp [h2]
  | x :: xs, k + 1, v, h0, h, h2 => by
    have hx := h0 0 (by omega) x (by simp)
    rw [List.find?_cons, hx]
    exact find_at (fun j hj u hu => h0 (j + 1) (Nat.succ_lt_succ hj) u (by simpa using hu)) (by simpa using h) h2
theorem find_none {P : Int → Bool} {xs : List Int} (h : ∀ j < xs.length, ∀ u, xs[j]? = some u → P u = false) : xs.find? P = none := by
  rw [List.find?_eq_none]
  intro x hx
  obtain ⟨j, hj⟩ := List.getElem?_of_mem hx
  rw [h j (List.getElem?_eq_some_iff.1 hj).1 x hj]
  decide
theorem grI_mem {F : Nat → Nat → Bool} {xs : List Int} {n : Nat} (h : ∀ x ∈ xs, 0 ≤ x ∧ x ≤ (n : Int) - 1) : grI F xs = -1 ∨ (0 ≤ grI F xs ∧ grI F xs ≤ (n : Int) - 1 ∧ grI F xs ∈ xs) := by
  unfold grI
  rcases e : xs.find? (belowAll F xs) with _ | v
  · exact .inl rfl
  · have := h v (List.mem_of_find?_eq_some e)
    exact .inr ⟨this.1, this.2, List.mem_of_find?_eq_some e⟩

set_option maxRecDepth 20000 in
set_option maxHeartbeats 2000000 in
theorem greatest_any (A C : Option Addr) (n c l e : Nat) (F : Nat → Nat → Bool) (xs : List Int) (w : World) (h : RdL (RV RB) w A n (tab n F)) (hf : RdL RI w C l xs) (hin : ∀ x ∈ xs, 0 ≤ x ∧ x ≤ (n : Int) - 1) :
    Calls Try.prog 30 #[.slice A n c, .slice C l e] w (Qt w (.int .i64 (grI F xs))) := by
  have hle := h.le
  have hle' := hf.le
  have HIN := Lib.hid hin
  have HL := Lib.hid hf.len
  clear hin
  go_enter Try.func30, Try.ntmps30
  go_wp2
  go_loopw [12] (fun i wr => ∃ k : Nat, k ≤ l ∧ i = .int .i64 k ∧ Hid (∀ j < k, ∀ u, xs[j]? = some u → belowAll F xs u = false) ∧ Drawn w wr) (fun i _ => l - (intOf i).toNat)
  case atStart => exact ⟨0, Nat.zero_le _, rfl, fun j hj => absurd hj (by omega), Drawn.zero _⟩
  case round =>
    obtain ⟨k, hk, rfl, HH, z, rfl⟩ := hrel
    by_cases hlt : k < l
    · have hk0 : (0 : Int) ≤ (k : Int) := by omega
      have hk1 : (k : Int) < (l : Int) := by omega
      obtain ⟨fb, fo, rfl⟩ := hf.addr hlt
      obtain ⟨v, x', hcf, ⟨rfl, -⟩, -, hx⟩ := hf.at' hlt
      have hxm := HIN.out x' (List.mem_of_getElem? hx)
      obtain ⟨x', rfl⟩ := Int.eq_ofNat_of_zero_le hxm.1
      have hx0 : (0 : Int) ≤ (x' : Int) := by omega
      have hx1 : (x' : Int) < (n : Int) := by omega
      have hxn : x' < n := by omega
      obtain ⟨b2, o2, rfl⟩ := h.addr hxn
      have HX := Lib.hid hx
      clear hx hxm
      go_wp2
      go_loopw [7, 18] (fun b i wr => ∃ q : Nat, q ≤ l ∧ i = .int .i64 q ∧ b = .bool ((xs.take q).all fun z => F z.toNat x') ∧ Drawn w wr) (fun _ i _ => l - (intOf i).toNat)
      case atStart => exact ⟨0, Nat.zero_le _, rfl, rfl, (by first | exact Drawn.zero _ | exact Drawn.at_ _ _ | exact (Drawn.at_ _ _).more _ | exact ((Drawn.at_ _ _).more _).more _)⟩
      case round =>
        obtain ⟨q, hq, rfl, rfl, z, rfl⟩ := hrel
        by_cases hltq : q < l
        · obtain ⟨v, y', hcg, ⟨rfl, -⟩, -, hy⟩ := hf.at' hltq
          have hym := HIN.out y' (List.mem_of_getElem? hy)
          obtain ⟨y', rfl⟩ := Int.eq_ofNat_of_zero_le hym.1
          have hy0 : (0 : Int) ≤ (y' : Int) := by omega
          have hy1 : (y' : Int) < (n : Int) := by omega
          have hq0 : (0 : Int) ≤ (q : Int) := by omega
          have hq1 : (q : Int) < (l : Int) := by omega
          obtain ⟨r2, p2, d2, hc2, hall2⟩ := h.rowT (show y' < n by omega)
          have hxy := hall2 x' hxn
          have HS := Lib.hid (all_take_succ (f := fun z => F z.toNat x') hy)
          clear hall2 hy hym
          obtain ⟨B, HB⟩ : ∃ B, Hid (((xs.take q).all fun z => F z.toNat x') = B) := ⟨_, rfl⟩
          rw [HB.out]
          rcases B with _ | _
          · go_wp2
            go_roundw
            case rel => exact ⟨q + 1, by omega, by go_num, by rw [HS.out, HB.out]; rfl, (by first | exact Drawn.zero _ | exact Drawn.at_ _ _ | exact (Drawn.at_ _ _).more _ | exact ((Drawn.at_ _ _).more _).more _)⟩
            case measure => simp [intOf]; omega
          · go_wp2
            go_roundw
            case rel => exact ⟨q + 1, by omega, by go_num, by rw [HS.out, HB.out]; rfl, (by first | exact Drawn.zero _ | exact Drawn.at_ _ _ | exact (Drawn.at_ _ _).more _ | exact ((Drawn.at_ _ _).more _).more _)⟩
            case measure => simp [intOf]; omega
        · obtain rfl : q = l := by omega
          have hlt' : ¬ (q : Int) < (q : Int) := by omega
          have HT : Hid (((xs.take q).all fun z => F z.toNat x') = belowAll F xs x') := by
            show _ = _
            rw [List.take_of_length_le (by rw [HL.out]; exact Nat.le_refl _)]
            rfl
          obtain ⟨B, HB⟩ : ∃ B, Hid (((xs.take q).all fun z => F z.toNat x') = B) := ⟨_, rfl⟩
          rw [HB.out]
          rcases B with _ | _
          · go_wp2
            go_roundw
            case rel => exact ⟨k + 1, by omega, by go_num, fun j hj u hu => by
              rcases Nat.lt_or_ge j k with h1 | h1
              · exact HH.out j h1 u hu
              · obtain rfl : j = k := by omega
                rw [HX.out] at hu
                injection hu with hu
                rw [← hu, ← HT.out, HB.out], (by first | exact Drawn.zero _ | exact Drawn.at_ _ _ | exact (Drawn.at_ _ _).more _ | exact ((Drawn.at_ _ _).more _).more _)⟩
            case measure => simp [intOf]; omega
          · go_wp2
            go_ret
            exact ⟨by
              have := find_at HH.out HX.out (by rw [← HT.out, HB.out])
              unfold grI
              rw [this]
              rfl, (by first | exact Drawn.zero _ | exact Drawn.at_ _ _ | exact (Drawn.at_ _ _).more _ | exact ((Drawn.at_ _ _).more _).more _)⟩
    · obtain rfl : k = l := by omega
      have hlt' : ¬ (k : Int) < (k : Int) := by omega
      have HN : Hid (grI F xs = -1) := by
        show _ = _
        unfold grI
        rw [find_none (fun j hj u hu => HH.out j (by rw [← HL.out]; exact hj) u hu)]
        rfl
      go_wp2
      go_ret
      exact ⟨by rw [HN.out]; rfl, (by first | exact Drawn.zero _ | exact Drawn.at_ _ _ | exact (Drawn.at_ _ _).more _ | exact ((Drawn.at_ _ _).more _).more _)⟩

def AdjXY (F G : Nat → Nat → Bool) (fs gs : List Int) (x y : Nat) : Prop := G (fAt fs x) y = F x (fAt gs y)
def AdjP (n m : Nat) (F G : Nat → Nat → Bool) (fs gs : List Int) : Prop := ∀ x < n, ∀ y < m, AdjXY F G fs gs x y
theorem AdjXY.yes {F G : Nat → Nat → Bool} {fs gs : List Int} {x y x' y' : Nat} {a b : Bool} (hx : fAt fs x = x') (hy : fAt gs y = y') (h1 : G x' y = a) (h2 : F x y' = b) (h : a = b) : AdjXY F G fs gs x y := by
  unfold AdjXY; rw [hx, hy, h1, h2]; exact h
theorem AdjXY.no {F G : Nat → Nat → Bool} {fs gs : List Int} {x y x' y' : Nat} {a b : Bool} (hx : fAt fs x = x') (hy : fAt gs y = y') (h1 : G x' y = a) (h2 : F x y' = b) (h : a ≠ b) : ¬ AdjXY F G fs gs x y := by
  unfold AdjXY; rw [hx, hy, h1, h2]; exact h

set_option maxRecDepth 20000 in
set_option maxHeartbeats 4000000 in
theorem adjoint_any (A B C D : Option Addr) (n m c d e d5 : Nat) (F G : Nat → Nat → Bool) (fs gs : List Int) (w : World) (h : RdL (RV RB) w A n (tab n F)) (h' : RdL (RV RB) w B m (tab m G)) (hf : RdL RI w C n fs) (hg : RdL RI w D m gs) (hin : ∀ x ∈ fs, 0 ≤ x ∧ x ≤ (m : Int) - 1) (hin2 : ∀ x ∈ gs, 0 ≤ x ∧ x ≤ (n : Int) - 1) :
    Calls Try.prog 33 #[.slice A n c, .slice B m d, .slice C n e, .slice D m d5] w (Qt w (.bool (tt (AdjP n m F G fs gs)))) := by
  have hle := h.le
  have hle' := h'.le
  have HIN := Lib.hid hin
  have HIN2 := Lib.hid hin2
  clear hin hin2
  go_enter Try.func33, Try.ntmps33
  go_wp2
  go_loopw [13] (fun i wr => ∃ k : Nat, k ≤ n ∧ i = .int .i64 k ∧ Hid (∀ x < k, ∀ y < m, AdjXY F G fs gs x y) ∧ Drawn w wr) (fun i _ => n - (intOf i).toNat)
  case atStart => exact ⟨0, Nat.zero_le _, rfl, upto0, Drawn.zero _⟩
  case round =>
    obtain ⟨k, hk, rfl, HH, z, rfl⟩ := hrel
    by_cases hlt : k < n
    · have hk0 : (0 : Int) ≤ (k : Int) := by omega
      have hk1 : (k : Int) < (n : Int) := by omega
      obtain ⟨b, o, rfl⟩ := h.addr hlt
      obtain ⟨fb, fo, rfl⟩ := hf.addr hlt
      obtain ⟨r, p, dd, hc1, hall⟩ := h.rowT hlt
      obtain ⟨v, x', hcf, ⟨rfl, -⟩, -, hx⟩ := hf.at' hlt
      have hxm := HIN.out x' (List.mem_of_getElem? hx)
      obtain ⟨x', rfl⟩ := Int.eq_ofNat_of_zero_le hxm.1
      have hx0 : (0 : Int) ≤ (x' : Int) := by omega
      have hx1 : (x' : Int) < (m : Int) := by omega
      have hxn : x' < m := by omega
      obtain ⟨b2, o2, rfl⟩ := h'.addr hxn
      obtain ⟨r2, p2, d2, hc2, hall2⟩ := h'.rowT hxn
      have HX := Lib.hid (fAt_get hx)
      have HA := Lib.hid hall
      have HA2 := Lib.hid hall2
      clear hall hall2 hx hxm
      go_wp2
      go_loopw [18] (fun i wr => ∃ q : Nat, q ≤ m ∧ i = .int .i64 q ∧ Hid (∀ y < q, AdjXY F G fs gs k y) ∧ Drawn w wr) (fun i _ => m - (intOf i).toNat)
      case atStart => exact ⟨0, Nat.zero_le _, rfl, upto0, (by first | exact Drawn.zero _ | exact Drawn.at_ _ _ | exact (Drawn.at_ _ _).more _ | exact ((Drawn.at_ _ _).more _).more _)⟩
      case round =>
        obtain ⟨q, hq, rfl, HQ, z, rfl⟩ := hrel
        by_cases hltq : q < m
        · obtain ⟨gb, go, rfl⟩ := hg.addr hltq
          obtain ⟨v, y', hcg, ⟨rfl, -⟩, -, hy⟩ := hg.at' hltq
          have hym := HIN2.out y' (List.mem_of_getElem? hy)
          obtain ⟨y', rfl⟩ := Int.eq_ofNat_of_zero_le hym.1
          have hy0 : (0 : Int) ≤ (y' : Int) := by omega
          have hy1 : (y' : Int) < (n : Int) := by omega
          have hq0 : (0 : Int) ≤ (q : Int) := by omega
          have hq1 : (q : Int) < (m : Int) := by omega
          have hkq := HA.out y' (by omega)
          have hxy := HA2.out q hltq
          have HY := Lib.hid (fAt_get hy)
          clear hy hym
          rcases hF : F k y' with _ | _
          all_goals
            rcases hG : G x' q with _ | _
            all_goals
              rw [hF] at hkq
              rw [hG] at hxy
              have HF := Lib.hid hF
              have HG := Lib.hid hG
              clear hF hG
              go_wp2
              go_quiet (fail)
              go_wp2
              first
                | (go_ret
                   exact ⟨ret_bool (tt_false fun hh => AdjXY.no HX.out HY.out HG.out HF.out (by decide) (hh k hlt q hltq)), (by first | exact Drawn.zero _ | exact Drawn.at_ _ _ | exact (Drawn.at_ _ _).more _ | exact ((Drawn.at_ _ _).more _).more _)⟩)
                | (go_roundw
                   case rel => exact ⟨q + 1, by omega, by go_num, upto HQ.out (AdjXY.yes HX.out HY.out HG.out HF.out (by decide)), (by first | exact Drawn.zero _ | exact Drawn.at_ _ _ | exact (Drawn.at_ _ _).more _ | exact ((Drawn.at_ _ _).more _).more _)⟩
                   case measure => simp [intOf]; omega)
        · have HE : Hid (∀ y < m, AdjXY F G fs gs k y) := fun y hy => HQ.out y (by omega)
          clear HQ
          go_wp2
          go_roundw
          case rel => exact ⟨k + 1, by omega, by go_num, upto HH.out HE.out, (by first | exact Drawn.zero _ | exact Drawn.at_ _ _ | exact (Drawn.at_ _ _).more _ | exact ((Drawn.at_ _ _).more _).more _)⟩
          case measure => simp [intOf]; omega
    · have HE : Hid (AdjP n m F G fs gs) := fun x hx => HH.out x (by omega)
      go_wp2
      go_ret
      exact ⟨ret_bool (tt_true HE.out), (by first | exact Drawn.zero _ | exact Drawn.at_ _ _ | exact (Drawn.at_ _ _).more _ | exact ((Drawn.at_ _ _).more _).more _)⟩
end Go.Proofs.Ytlncpabnlnipoaa
namespace Go.Proofs.Ytlncpabnlnipoaa
open Go.RowKit

theorem own_lowB {w : World} {b b' e s n : Nat} {v : Value} {xs : List Value} (h : w.ownsRow b e s v n xs) (hb : b' ≤ b) : w.ownsRow b' e s v n xs := by
  refine ⟨h.1, ?_⟩
  rcases h.2 with h2 | ⟨g, cap, cur, hv, hg, rest⟩
  · exact .inl h2
  · exact .inr ⟨g, cap, cur, hv, by omega, rest⟩
theorem boxes3a (w : World) (ca cb cc : Array Value) (ta tb tc : TypeId) : ∃ w3, w3 = ((w.alloc (.cells ca ta)).alloc (.cells cb tb)).alloc (.cells cc tc) ∧ Below w.heap.size w w3 ∧ w3.heap.size = w.heap.size + 3 ∧ Blk w3 w.heap.size ta ca ∧ Blk w3 (w.heap.size + 1) tb cb ∧ Blk w3 (w.heap.size + 2) tc cc := by
  refine ⟨_, rfl, below_box3 _ _ _ _, by simp, ((Blk.new w _ _).next (below_box _ _)).next (below_box _ _), ?_, ?_⟩
  · have := (Blk.new (w.alloc (.cells ca ta)) tb cb).next (below_box _ (.cells cc tc))
    rwa [World.size_alloc] at this
  · have := Blk.new ((w.alloc (.cells ca ta)).alloc (.cells cb tb)) tc cc
    rwa [World.size_alloc, World.size_alloc] at this
theorem boxes1a (w : World) (cp : Array Value) (tp : TypeId) : ∃ w3, w3 = w.alloc (.cells cp tp) ∧ Below w.heap.size w w3 ∧ w3.heap.size = w.heap.size + 1 ∧ Blk w3 w.heap.size tp cp := ⟨_, rfl, below_box _ _, by simp, Blk.new _ _ _⟩

def gUp (F G : Nat → Nat → Bool) (fs : List Int) (n y : Nat) : Int := grI F (rowTo (upF G fs) y n)
def upR (F G : Nat → Nat → Bool) (fs : List Int) (n k : Nat) : List Int := (List.range k).map (gUp F G fs n)
theorem upR_succ (F G : Nat → Nat → Bool) (fs : List Int) (n k : Nat) : upR F G fs n (k + 1) = upR F G fs n k ++ [gUp F G fs n k] := by simp [upR, List.range_succ]
theorem upR_len (F G : Nat → Nat → Bool) (fs : List Int) (n k : Nat) : (upR F G fs n k).length = k := by simp [upR]
def UpP (n m : Nat) (F G : Nat → Nat → Bool) (fs : List Int) : Prop := (∀ y < m, 0 ≤ gUp F G fs n y) ∧ AdjP n m F G fs (upR F G fs n m)
theorem row_in {F : Nat → Nat → Bool} {x n : Nat} : ∀ v ∈ rowTo F x n, 0 ≤ v ∧ v ≤ (n : Int) - 1 := fun v hv => by
  obtain ⟨y, hy, -, rfl⟩ := rowTo_mem.1 hv
  omega
theorem gUp_in {F G : Nat → Nat → Bool} {fs : List Int} {n y : Nat} : gUp F G fs n y = -1 ∨ (0 ≤ gUp F G fs n y ∧ gUp F G fs n y ≤ (n : Int) - 1) := by
  rcases grI_mem (F := F) (xs := rowTo (upF G fs) y n) row_in with h | h
  · exact .inl h
  · exact .inr ⟨h.1, h.2.1⟩
theorem upR_in {F G : Nat → Nat → Bool} {fs : List Int} {n k : Nat} (h : ∀ y < k, 0 ≤ gUp F G fs n y) : ∀ v ∈ upR F G fs n k, 0 ≤ v ∧ v ≤ (n : Int) - 1 := fun v hv => by
  unfold upR at hv
  rw [List.mem_map] at hv
  obtain ⟨y, hy, rfl⟩ := hv
  have h0 := h y (by simpa using hy)
  rcases gUp_in (F := F) (G := G) (fs := fs) (n := n) (y := y) with h1 | h1
  · omega
  · exact h1
noncomputable def upB (n m l : Nat) (xss yss : List (List Int)) (fs : List Int) : Bool := mapS n m l xss yss fs && tt (UpP n m (leF xss) (leF yss) fs)
noncomputable def upL (n m l : Nat) (xss yss : List (List Int)) (fs : List Int) : List Int := if upB n m l xss yss fs then upR (leF xss) (leF yss) fs n m else []
def UpE (w : World) (n m l : Nat) (xss yss : List (List Int)) (fs : List Int) (e : Ending) (w' : World) : Prop :=
  ∃ A k c, e = .returned (.tuple #[.slice A k c, .bool (upB n m l xss yss fs)]) ∧ w'.ownsRow w.heap.size 3 1 (.slice A k c) k (ints (upL n m l xss yss fs)) ∧ Below w.heap.size w w'
theorem UpE.no {w w' : World} {n m l : Nat} {xss yss : List (List Int)} {fs : List Int} {A : Option Addr} {c : Nat} (h : upB n m l xss yss fs = false) (ho : w'.ownsRow w.heap.size 3 1 (.slice A 0 c) 0 []) (hb : Below w.heap.size w w') : UpE w n m l xss yss fs (.returned (.tuple #[.slice A 0 c, .bool false])) w' := by
  have e : upL n m l xss yss fs = [] := by unfold upL; rw [h]; rfl
  exact ⟨A, 0, c, by rw [h], by rw [e]; exact ho, hb⟩
theorem UpE.yes {w w' : World} {n m l k : Nat} {xss yss : List (List Int)} {fs : List Int} {A : Option Addr} {c : Nat} (h : upB n m l xss yss fs = true) (ho : w'.ownsRow w.heap.size 3 1 (.slice A k c) k (ints (upR (leF xss) (leF yss) fs n m))) (hb : Below w.heap.size w w') : UpE w n m l xss yss fs (.returned (.tuple #[.slice A k c, .bool true])) w' := by
  have e : upL n m l xss yss fs = upR (leF xss) (leF yss) fs n m := by unfold upL; rw [h]; rfl
  exact ⟨A, k, c, by rw [h], by rw [e]; exact ho, hb⟩

set_option maxRecDepth 20000 in
set_option maxHeartbeats 4000000 in
theorem implUp_any (A B C : Option Addr) (n m l c d e : Nat) (xss yss : List (List Int)) (fs : List Int) (w : World) (h : RdL (RV RI) w A n xss) (h' : RdL (RV RI) w B m yss) (hf : RdL RI w C l fs) :
    Calls Try.prog 6 #[.agg #[.slice A n c], .agg #[.slice B m d], .slice C l e] w (UpE w n m l xss yss fs) := by
  obtain ⟨w0, hw0, T0, hsz0, BX, BY, BZ⟩ := boxes3a w #[.slice A n c] #[.slice B m d] #[.slice C l e] 26 26 27
  have HW0 := Lib.hid hw0
  have cX := BX.c0
  have cY := BY.c0
  rw [HW0.out] at cX cY
  have h0 := h.next stab_RVI T0
  have h0' := h'.next stab_RVI T0
  have hf0 := hf.next stab_RI T0
  clear hw0
  rcases h1 : (tt (GoodP xss) && tt (GoodP yss)) with _ | _
  · have H0 : Hid (upB n m l xss yss fs = false) := by show _ = _; unfold upB mapS; rw [h1]; rfl
    have H1 := Lib.hid h1
    clear h1
    go_enter Try.func6, Try.ntmps6
    go_wp2_with fail
    rw [← HW0.out]
    refine (twoOrders_any _ _ _ _ _ _ _ _ _ h0 h0').mono ?_
    rintro e w2 ⟨A1, m1, c1, A2, m2, c2, rfl, -, -, hb1⟩
    rw [H1.out]
    have T1 := below_next T0 hb1 rfl
    obtain ⟨w3, hw3, T3', hsz3, BO⟩ := boxes1a w2 #[.slice A2 m2 c2] 58
    have HW3 := Lib.hid hw3
    have T3 := below_next T1 T3' rfl
    clear hw3
    go_wp2_with fail
    rw [← HW3.out]
    go_ret2
    exact UpE.no H0.out (by rw [← hsz3]; exact World.ownsRow_lit w3 #[] 0 T3.size (Nat.zero_le _) rfl) (below_next T3 (below_box _ _) rfl)
  · have HG : GoodP xss ∧ GoodP yss := by simpa only [Bool.and_eq_true, tt_iff] using h1
    have H1 := Lib.hid h1
    rcases h4 : mapB n m l fs with _ | _
    · have H0 : Hid (upB n m l xss yss fs = false) := by show _ = _; unfold upB mapS; rw [h4]; simp
      have H4 := Lib.hid h4
      clear h1 h4
      go_enter Try.func6, Try.ntmps6
      go_wp2_with fail
      rw [← HW0.out]
      refine (twoOrders_any _ _ _ _ _ _ _ _ _ h0 h0').mono ?_
      rintro e w2 ⟨A1, m1, c1, A2, m2, c2, rfl, hr1, hr2, hb1⟩
      rw [H1.out]
      obtain ⟨rfl, r1⟩ := hr1 HG.1
      obtain ⟨rfl, r2⟩ := hr2 HG.2
      have T1 := below_next T0 hb1 rfl
      obtain ⟨w3, hw3, T3', -, BO⟩ := boxes1a w2 #[.slice A2 m2 c2] 58
      have HW3 := Lib.hid hw3
      have T3 := below_next T1 T3' rfl
      have BZ3 := (BZ.next hb1).next T3'
      have hf3 := (hf0.next stab_RI hb1).next stab_RI T3'
      have cO := BO.c0
      have cZ := BZ3.c0
      rw [HW3.out] at cO cZ
      clear hw3
      go_wp2_with fail
      rw [← HW3.out]
      refine (isPosetMap_any _ _ _ _ _ _ _ _ _ _ _ hf3).mono ?_
      rintro e w4 ⟨rfl, rfl⟩
      rw [H4.out]
      go_wp2_with fail
      go_ret2
      exact UpE.no H0.out (World.ownsRow_lit _ #[] 0 T3.size (Nat.zero_le _) rfl) (below_next T3 (below_box _ _) rfl)
    · have H4 := Lib.hid h4
      obtain ⟨rfl, hin⟩ := mapB_in h4
      have hMS : mapS l m l xss yss fs = true := by unfold mapS; rw [h1, h4]; rfl
      have HMS := Lib.hid hMS
      have HIN := Lib.hid hin
      have hn10 : l ≤ 10 := by rw [← h.len]; exact HG.1.1
      have hm10 : m ≤ 10 := by rw [← h'.len]; exact HG.2.1
      obtain ⟨F, HF⟩ : ∃ F, Hid (leF xss = F) := ⟨_, rfl⟩
      obtain ⟨G, HGG⟩ : ∃ F, Hid (leF yss = F) := ⟨_, rfl⟩
      have HUB : Hid (upB l m l xss yss fs = tt (UpP l m F G fs)) := by show _ = _; unfold upB; rw [hMS, HF.out, HGG.out]; rfl
      clear h1 h4 hin hMS
      go_enter Try.func6, Try.ntmps6
      go_wp2_with fail
      rw [← HW0.out]
      refine (twoOrders_any _ _ _ _ _ _ _ _ _ h0 h0').mono ?_
      rintro e w2 ⟨A1, m1, c1, A2, m2, c2, rfl, hr1, hr2, hb1⟩
      rw [H1.out]
      obtain ⟨rfl, r1⟩ := hr1 HG.1
      obtain ⟨rfl, r2⟩ := hr2 HG.2
      rw [HF.out] at r1
      rw [HGG.out] at r2
      have T1 := below_next T0 hb1 rfl
      obtain ⟨w3, hw3, T3', -, BO⟩ := boxes1a w2 #[.slice A2 m2 c2] 58
      have HW3 := Lib.hid hw3
      have T3 := below_next T1 T3' rfl
      have BZ3 := (BZ.next hb1).next T3'
      have hf3 := (hf0.next stab_RI hb1).next stab_RI T3'
      replace r1 := r1.next stab_RVB T3'
      replace r2 := r2.next stab_RVB T3'
      have cO := BO.c0
      have cZ := BZ3.c0
      rw [HW3.out] at cO cZ
      clear hw3 cX cY
      go_wp2_with fail
      rw [← HW3.out]
      refine (isPosetMap_any _ _ _ _ _ _ _ _ _ _ _ hf3).mono ?_
      rintro e w4 ⟨rfl, rfl⟩
      rw [H4.out]
      clear cO cZ
      have cO := BO.c0
      have cZ := BZ3.c0
      have cO' := (BO.next (below_box w3 (.cells #[] 3))).c0
      go_wp2_with fail
      clear cO'
      go_loopw [11, 34] (fun v i wr => ∃ (k : Nat) (acc : List Int), k ≤ m2 ∧ i = .int .i64 k ∧ acc = upR F G fs m1 k ∧ (∀ y < k, 0 ≤ gUp F G fs m1 y) ∧ Gat w3.heap.size w3 wr v k acc) (fun _ i _ => m2 - (intOf i).toNat)
      case atStart => exact ⟨0, [], Nat.zero_le _, rfl, rfl, upto0, _, _, rfl, rfl, World.ownsRow_lit _ _ _ (Nat.le_refl _) (Nat.zero_le _) rfl, below_box _ _⟩
      case round =>
        obtain ⟨k, acc, hk, rfl, hacc2, hpos, A', c', rfl, hacc, hown, hT⟩ := hrel
        have HA := Lib.hid hacc
        have HA2 := Lib.hid hacc2
        have HP := Lib.hid hpos
        clear hacc hacc2 hpos
        replace r1 := r1.next stab_RVB hT
        replace r2 := r2.next stab_RVB hT
        replace hf3 := hf3.next stab_RI hT
        replace BO := BO.next hT
        replace BZ3 := BZ3.next hT
        clear cO cZ
        by_cases hlt : k < m2
        · obtain ⟨w5, hw5, T5, -, BK⟩ := boxes1a wr #[.int .i64 k] 3
          have HW5 := Lib.hid hw5
          clear hw5
          replace r1 := r1.next stab_RVB T5
          replace r2 := r2.next stab_RVB T5
          replace hf3 := hf3.next stab_RI T5
          replace hown := own_next hown T5
          have hT5 := below_next hT T5 rfl
          have cO := (BO.next T5).c0
          have cZ := (BZ3.next T5).c0
          have cK := BK.c0
          go_wp2_with fail
          rw [← HW5.out]
          refine (those_any A1 A2 _ _ _ c1 _ _ G fs k _ _ _ _ r2 hf3 HIN.out (by omega) hlt cO cZ cK).mono ?_
          rintro e w6 ⟨A6, n6, c6, rfl, hl6, ho6, hb6⟩
          have hT6 := below_next hT5 hb6 rfl
          replace r1 := r1.next stab_RVB hb6
          replace hown := own_next hown hb6
          have R6 := rd_of_own (R := RI) ho6 (RI_ints fun v hv => by have := row_in v hv; omega)
          clear cO cZ cK
          go_wp2_with fail
          refine (greatest_any _ _ _ _ _ _ F _ _ r1 R6 row_in).mono ?_
          rintro e w7 ⟨rfl, z, rfl⟩
          have hT7 := below_drewN hT6 z
          have hown7 := own_drewN hown z
          have hs7 := hT7.size
          obtain ⟨w7, hw7⟩ : ∃ w7, w7 = w6.drewN z := ⟨_, rfl⟩
          rw [← hw7] at hT7 hown7 hs7 ⊢
          clear hw7
          rcases gUp_in (F := F) (G := G) (fs := fs) (n := m1) (y := k) with hv | hv
          · have hgk : grI F (rowTo (upF G fs) k m1) = -1 := hv
            have HNO : Hid (upB m1 m2 m1 xss yss fs = false) := by
              show _ = _
              rw [HUB.out, ← tt_false]
              exact fun hh => by have := hh.1 k hlt; omega
            rw [hgk]
            clear hv hgk
            have hT7' : Below w.heap.size w w7 := below_next T3 hT7 rfl
            go_wp2_with fail
            go_ret2
            exact UpE.no HNO.out (World.ownsRow_lit w7 #[] 0 hT7'.size (Nat.zero_le _) rfl) (below_next hT7' (below_box _ _) rfl)
          · obtain ⟨V, HV⟩ : ∃ V, Hid (grI F (rowTo (upF G fs) k m1) = V) := ⟨_, rfl⟩
            have HGV : Hid (gUp F G fs m1 k = V) := HV
            rw [HV.out]
            rw [HGV.out] at hv
            have hv0 : ¬ V < 0 := by omega
            go_wp2_with (at_builtin; refine app1 w7 rfl _ _ 27 3 rfl (.int .i64 0) 8 Try.underlying27 info_int rfl (by decide) w3.heap.size k c' A' (ints acc) rfl hown7 (.int .i64 V) rfl rfl (by omega) hs7 ?_; intro A2 c2 w8 hown2 hg2 hb2)
            go_roundw
            case rel => exact ⟨k + 1, acc ++ [V], by omega, by go_num, by rw [upR_succ, HA2.out, HGV.out], upto HP.out (by rw [HGV.out]; omega), A2, c2, rfl, by simp [HA.out], by rw [ints_snoc]; exact hown2, hT7.trans hb2⟩
            case measure => simp [intOf]; omega
        · obtain rfl : k = m2 := by omega
          have hlt' : ¬ (k : Int) < (k : Int) := by omega
          have cO := BO.c0
          have cZ := BZ3.c0
          have Rg : RdL RI wr A' k (upR F G fs m1 k) := by
            rw [← HA2.out]
            exact rd_of_own (R := RI) hown (RI_ints fun v hv => by
              rw [HA2.out] at hv
              have := upR_in HP.out v hv
              omega)
          have hgin := upR_in HP.out
          have HGIN := Lib.hid hgin
          clear hgin
          have hTw : Below w.heap.size w wr := below_next T3 hT rfl
          rcases ha : tt (AdjP m1 k F G fs (upR F G fs m1 k)) with _ | _
          · have HAD := Lib.hid ha
            have HNO : Hid (upB m1 k m1 xss yss fs = false) := by
              show _ = _
              rw [HUB.out, ← tt_false]
              intro hh
              rw [← tt_true hh.2] at ha
              cases ha
            clear ha
            go_wp2_with fail
            refine (adjoint_any _ _ _ _ _ _ _ _ _ _ F G fs _ _ r1 r2 hf3 Rg HIN.out HGIN.out).mono ?_
            rintro e w7 ⟨rfl, z, rfl⟩
            rw [HAD.out]
            have hTz := below_drewN hTw z
            go_wp2_with fail
            go_ret2
            exact UpE.no HNO.out (World.ownsRow_lit _ #[] 0 hTz.size (Nat.zero_le _) rfl) (below_next hTz (below_box _ _) rfl)
          · have HAD := Lib.hid ha
            have HYES : Hid (upB m1 k m1 xss yss fs = true) := by
              show _ = _
              rw [HUB.out, ← tt_true]
              exact ⟨HP.out, tt_iff.1 ha⟩
            clear ha
            go_wp2_with fail
            refine (adjoint_any _ _ _ _ _ _ _ _ _ _ F G fs _ _ r1 r2 hf3 Rg HIN.out HGIN.out).mono ?_
            rintro e w7 ⟨rfl, z, rfl⟩
            rw [HAD.out]
            have hTz := below_drewN hTw z
            go_wp2_with fail
            go_ret2
            exact UpE.yes HYES.out (by rw [HF.out, HGG.out, ← HA2.out]; exact own_lowB (own_drewN hown z) T3.size) hTz
end Go.Proofs.Ytlncpabnlnipoaa
namespace Go.Proofs.Ytlncpabnlnipoaa
open Go.RowKit

set_option maxRecDepth 20000 in
set_option maxHeartbeats 4000000 in
theorem l30Adjoint_any (A B C D : Option Addr) (n m c d e d5 : Nat) (xss yss : List (List Int)) (fs gs : List Int) (w : World) (h : RdL (RV RI) w A n xss) (h' : RdL (RV RI) w B m yss) (hf : RdL RI w C n fs) (hg : RdL RI w D m gs) (hin : ∀ x ∈ fs, 0 ≤ x ∧ x ≤ (m : Int) - 1) (hin2 : ∀ x ∈ gs, 0 ≤ x ∧ x ≤ (n : Int) - 1) :
    Calls Try.prog 35 #[.agg #[.slice A n c], .agg #[.slice B m d], .slice C n e, .slice D m d5] w (Bl w (.bool (tt (AdjP n m (leF xss) (leF yss) fs gs)))) := by
  have hle := h.le
  have hle' := h'.le
  have HIN := Lib.hid hin
  have HIN2 := Lib.hid hin2
  clear hin hin2
  have hb := below_box2 w (.cells #[.slice A n c] 26) (.cells #[.slice B m d] 26)
  have BX := (Blk.new w 26 #[.slice A n c]).alloc (.cells #[.slice B m d] 26)
  have BY : Blk ((w.alloc (.cells #[.slice A n c] 26)).alloc (.cells #[.slice B m d] 26)) (w.heap.size + 1) 26 #[.slice B m d] := by
    have := Blk.new (w.alloc (.cells #[.slice A n c] 26)) 26 #[.slice B m d]
    simpa using this
  go_enter Try.func35, Try.ntmps35
  go_wp2
  go_loopw [9] (fun i wr => ∃ k : Nat, k ≤ n ∧ i = .int .i64 k ∧ Hid (∀ x < k, ∀ y < m, AdjXY (leF xss) (leF yss) fs gs x y) ∧ Blk wr w.heap.size 26 #[.slice A n c] ∧ Blk wr (w.heap.size + 1) 26 #[.slice B m d] ∧ Below w.heap.size w wr) (fun i _ => n - (intOf i).toNat)
  case atStart => exact ⟨0, Nat.zero_le _, rfl, upto0, BX, BY, hb⟩
  case round =>
    clear BX BY hb
    obtain ⟨k, hk, rfl, HH, BX, BY, hT⟩ := hrel
    replace h := h.next stab_RVI hT
    replace h' := h'.next stab_RVI hT
    replace hf := hf.next stab_RI hT
    replace hg := hg.next stab_RI hT
    by_cases hlt : k < n
    · have hk0 : (0 : Int) ≤ (k : Int) := by omega
      have hk1 : (k : Int) < (n : Int) := by omega
      obtain ⟨fb, fo, v, y', rfl, hcf, ⟨rfl, -⟩, -, hy⟩ := hf.at hlt
      have hym := HIN.out y' (List.mem_of_getElem? hy)
      obtain ⟨y', rfl⟩ := Int.eq_ofNat_of_zero_le hym.1
      have HY := Lib.hid (fAt_get hy)
      clear hy hym
      obtain ⟨wo, hwo⟩ : ∃ wo : World, wo = wr := ⟨_, rfl⟩
      subst hwo
      go_wp2
      go_loopw [10] (fun i wi => ∃ q : Nat, q ≤ m ∧ i = .int .i64 q ∧ Hid (∀ y < q, AdjXY (leF xss) (leF yss) fs gs k y) ∧ Below wo.heap.size wo wi) (fun i _ => m - (intOf i).toNat)
      case atStart => exact ⟨0, Nat.zero_le _, rfl, upto0, Below.refl _ _⟩
      case round =>
        obtain ⟨q, hq, rfl, HQ, hTi⟩ := hrel
        by_cases hltq : q < m
        · have cX := (BX.next hTi).c0
          have cY := (BY.next hTi).c0
          have hcf' : wr.cell? ⟨fb, fo + k, none⟩ = some (.int .i64 y') := keepc hTi hcf
          obtain ⟨gb, go, v, x', rfl, hcg, ⟨rfl, -⟩, -, hx⟩ := (hg.next stab_RI hTi).at hltq
          have hxm := HIN2.out x' (List.mem_of_getElem? hx)
          obtain ⟨x', rfl⟩ := Int.eq_ofNat_of_zero_le hxm.1
          have HX := Lib.hid (fAt_get hx)
          have hxn : x' < n := by omega
          have hq0 : (0 : Int) ≤ (q : Int) := by omega
          have hq1 : (q : Int) < (m : Int) := by omega
          have hh := h.next stab_RVI hTi
          have hh' := h'.next stab_RVI hTi
          obtain ⟨b1, HS1⟩ : ∃ b, Hid (hasI (y' : Int) (rowOf yss q) = b) := ⟨_, rfl⟩
          obtain ⟨b2, HS2⟩ : ∃ b, Hid (hasI (k : Int) (rowOf xss x') = b) := ⟨_, rfl⟩
          have HR1 : Hid (leF yss y' q = b1) := HS1
          have HR2 : Hid (leF xss k x' = b2) := HS2
          have HC1 : ∀ wz, Below wr.heap.size wr wz → Calls Try.prog 25 #[.agg #[.slice B m d], .int .i64 y', .int .i64 q] wz (Bl wz (.bool b1)) := fun wz hz => by
            have := l23Leq_any B m d yss (y' : Int) q wz (hh'.next stab_RVI hz) hltq
            rwa [HS1.out] at this
          have HC2 : ∀ wz, Below wr.heap.size wr wz → Calls Try.prog 25 #[.agg #[.slice A n c], .int .i64 k, .int .i64 x'] wz (Bl wz (.bool b2)) := fun wz hz => by
            have := l23Leq_any A n c xss (k : Int) x' wz (hh.next stab_RVI hz) hxn
            rwa [HS2.out] at this
          clear hx hxm
          have Tk : Below wr.heap.size wr wr := Below.refl _ _
          go_upto_region 7 with fail
          go_cut [37] (fun v37 wx => v37 = .bool (b1 != b2) ∧ Below wr.heap.size wr wx)
          case first =>
            go_region_held3 (fun w' => w'.cell? ⟨w.heap.size, 0, none⟩ = some (.slice A n c) ∧ w'.cell? ⟨w.heap.size + 1, 0, none⟩ = some (.slice B m d) ∧ w'.cell? ⟨fb, fo + k, none⟩ = some (.int .i64 y') ∧ w'.cell? ⟨gb, go + q, none⟩ = some (.int .i64 x')) (first | go_keep | exact ⟨keepc Tk cX, keepc Tk cY, keepc Tk hcf', keepc Tk hcg⟩) (first
              | (go_at_call 25; (with_reducible refine (HC1 _ ?_).mono ?_); (first | exact Tk | exact Below.drew Tk); rintro e wn ⟨rfl, hbn⟩; replace Tk := below_next (by first | exact Tk | exact Below.drew Tk) hbn rfl)
              | (go_at_call 25; (with_reducible refine (HC2 _ ?_).mono ?_); (first | exact Tk | exact Below.drew Tk); rintro e wn ⟨rfl, hbn⟩; replace Tk := below_next (by first | exact Tk | exact Below.drew Tk) hbn rfl))
            all_goals
              go_wp2_with fail
              go_meet
              exact ⟨rfl, by first | exact Tk | exact Below.drew Tk⟩
          case rest =>
            obtain ⟨rfl, hbc⟩ := hcut
            have hTc := below_next hTi hbc rfl
            rcases b1 with _ | _
            all_goals
              rcases b2 with _ | _
              all_goals
                go_wp2_with fail
                first
                  | (go_ret
                     exact ⟨ret_bool (tt_false fun hh => AdjXY.no HY.out HX.out HR1.out HR2.out (by decide) (hh k hlt q hltq)), below_next hT hTc rfl⟩)
                  | (go_roundw
                     case rel => exact ⟨q + 1, by omega, by go_num, upto HQ.out (AdjXY.yes HY.out HX.out HR1.out HR2.out (by decide)), hTc⟩
                     case measure => simp [intOf]; omega)
        · have HE : Hid (∀ y < m, AdjXY (leF xss) (leF yss) fs gs k y) := fun y hy => HQ.out y (by omega)
          clear HQ
          go_wp2
          go_roundw
          case rel => exact ⟨k + 1, by omega, by go_num, upto HH.out HE.out, BX.next hTi, BY.next hTi, below_next hT hTi rfl⟩
          case measure => simp [intOf]; omega
    · have HE : Hid (AdjP n m (leF xss) (leF yss) fs gs) := fun x hx => HH.out x (by omega)
      go_wp2
      go_ret
      exact ⟨ret_bool (tt_true HE.out), hT⟩

theorem belowAll_part {xss : List (List Int)} {xs : List Int} {x : Nat} {r : List Int} (hin : ∀ v ∈ xs, 0 ≤ v) (hr : rowOf xss x = r) : partL r xs = belowAll (leF xss) xs x := by
  rw [Bool.eq_iff_iff, partL_iff]
  unfold belowAll leF
  rw [List.all_eq_true]
  constructor
  · intro h z hz
    have h0 := hin z hz
    rw [show ((z.toNat : Nat) : Int) = z by omega, Int.toNat_natCast, hr]
    exact hasI_iff.2 (h z hz)
  · intro h z hz
    have h0 := hin z hz
    have := h z hz
    rw [show ((z.toNat : Nat) : Int) = z by omega, Int.toNat_natCast, hr] at this
    exact hasI_iff.1 this
theorem gr_last {n : Nat} {F : Nat → Nat → Bool} {xs : List Int} {v : Int} (hO : OrdP n F) (hin : ∀ x ∈ xs, 0 ≤ x ∧ x ≤ (n : Int) - 1) (hv : v ∈ xs) (hP : belowAll F xs v = true) : grI F xs = v := by
  unfold grI
  rcases e : xs.find? (belowAll F xs) with _ | u
  · rw [List.find?_eq_none] at e
    exact absurd hP (e v hv)
  · have hu := List.find?_some e
    have hum := List.mem_of_find?_eq_some e
    unfold belowAll at hP hu
    rw [List.all_eq_true] at hP hu
    have h1 := hP u hum
    have h2 := hu v hv
    have b1 := hin u hum
    have b2 := hin v hv
    by_cases hne : u = v
    · exact hne
    · exact absurd ⟨by omega, h1, h2⟩ ((hO u.toNat (by omega)).2 v.toNat (by omega)).1
end Go.Proofs.Ytlncpabnlnipoaa
namespace Go.Proofs.Ytlncpabnlnipoaa
open Go.RowKit

def BestP (F : Nat → Nat → Bool) (xs : List Int) (q : Nat) (b : Value) : Prop := (b = .int .i64 (-1) ∧ ∀ j < q, ∀ u, xs[j]? = some u → belowAll F xs u = false) ∨ (b = .int .i64 (grI F xs) ∧ 0 ≤ grI F xs)
theorem BestP.keep {F : Nat → Nat → Bool} {xs : List Int} {q : Nat} {b : Value} {v : Int} (h : BestP F xs q b) (hv : xs[q]? = some v) (hP : belowAll F xs v = false) : BestP F xs (q + 1) b := by
  rcases h with ⟨h1, h2⟩ | h
  · refine .inl ⟨h1, fun j hj u hu => ?_⟩
    rcases Nat.lt_or_ge j q with h3 | h3
    · exact h2 j h3 u hu
    · obtain rfl : j = q := by omega
      rw [hv] at hu
      injection hu with hu
      rw [← hu]
      exact hP
  · exact .inr h
theorem BestP.done {F : Nat → Nat → Bool} {xs : List Int} {q : Nat} {b : Value} (h : BestP F xs q b) (hq : xs.length ≤ q) : b = .int .i64 (grI F xs) := by
  rcases h with ⟨h1, h2⟩ | h
  · rw [h1]
    unfold grI
    rw [find_none (fun j hj u hu => h2 j (by omega) u hu)]
    rfl
  · exact h.1

set_option maxRecDepth 20000 in
set_option maxHeartbeats 8000000 in
theorem specUp_any (A B C : Option Addr) (n m l c d e : Nat) (xss yss : List (List Int)) (fs : List Int) (w : World) (h : RdL (RV RI) w A n xss) (h' : RdL (RV RI) w B m yss) (hf : RdL RI w C l fs) :
    Calls Try.prog 7 #[.agg #[.slice A n c], .agg #[.slice B m d], .slice C l e] w (UpE w n m l xss yss fs) := by
  have hb := below_box2 w (.cells #[.slice A n c] 26) (.cells #[.slice B m d] 26)
  have BX := (Blk.new w 26 #[.slice A n c]).alloc (.cells #[.slice B m d] 26)
  have BY : Blk ((w.alloc (.cells #[.slice A n c] 26)).alloc (.cells #[.slice B m d] 26)) (w.heap.size + 1) 26 #[.slice B m d] := by
    have := Blk.new (w.alloc (.cells #[.slice A n c] 26)) 26 #[.slice B m d]
    simpa using this
  obtain ⟨w0, hw0⟩ : ∃ w0, w0 = (w.alloc (.cells #[.slice A n c] 26)).alloc (.cells #[.slice B m d] 26) := ⟨_, rfl⟩
  rw [← hw0] at hb BX BY
  have HW0 := Lib.hid hw0
  have hs0 : w0.heap.size = w.heap.size + 1 + 1 := by rw [hw0]; simp
  have HS0 := Lib.hid hs0
  clear hw0
  obtain ⟨w1, hw1⟩ : ∃ w1, w1 = w0.alloc (.cells #[] 3) := ⟨_, rfl⟩
  have T1' : Below w0.heap.size w0 w1 := by rw [hw1]; exact below_box _ _
  have O1 : w1.ownsRow w0.heap.size 3 1 (.slice (some ⟨w.heap.size + 1 + 1, 0, none⟩) 0 0) 0 (ints []) := by
    rw [hw1, ← hs0]
    exact World.ownsRow_lit w0 #[] 0 (Nat.le_refl _) (Nat.zero_le _) rfl
  have T1 := below_next hb T1' rfl
  have HW1 : Hid (w1 = ((w.alloc (.cells #[.slice A n c] 26)).alloc (.cells #[.slice B m d] 26)).alloc (.cells #[] 3)) := by show _ = _; rw [hw1, HW0.out]
  replace BX := BX.next T1'
  replace BY := BY.next T1'
  have cX := BX.c0
  have cY := BY.c0
  rw [HW1.out] at cX cY
  clear hw1 hs0
  have h1r := h.next stab_RVI T1
  have h1r' := h'.next stab_RVI T1
  have hf1 := hf.next stab_RI T1
  rcases h4 : mapS n m l xss yss fs with _ | _
  · have H4 := Lib.hid h4
    have H0 : Hid (upB n m l xss yss fs = false) := by show _ = _; unfold upB; rw [h4]; rfl
    clear h4
    go_enter Try.func7, Try.ntmps7
    go_wp2_with fail
    rw [← HW1.out]
    refine (l30Map_any _ _ _ _ _ _ _ _ _ _ _ _ _ h1r h1r' hf1).mono ?_
    rintro e w2 ⟨rfl, hb2⟩
    rw [H4.out]
    have T2 := below_next T1 hb2 rfl
    go_wp2_with fail
    go_ret2
    exact UpE.no H0.out (own_lowB (own_next O1 hb2) hb.size) T2
  · obtain ⟨hg1, hg2, -, rfl, hin, -⟩ := mapS_true h4
    have H4 := Lib.hid h4
    have HUB : Hid (upB l m l xss yss fs = tt (UpP l m (leF xss) (leF yss) fs)) := by show _ = _; unfold upB; rw [h4]; rfl
    have HIN := Lib.hid hin
    have HG1 := Lib.hid hg1
    have HXL := Lib.hid h.len
    have hl10 : l ≤ 10 := by rw [← h.len]; exact hg1.1
    have hm10 : m ≤ 10 := by rw [← h'.len]; exact hg2.1
    have HORD : Hid (OrdP l (leF xss)) := by show OrdP _ _; rw [← h.len]; exact hg1.2.2
    clear h4 hin hg1 hg2
    go_enter Try.func7, Try.ntmps7
    go_wp2_with fail
    rw [← HW1.out]
    refine (l30Map_any _ _ _ _ _ _ _ _ _ _ _ _ _ h1r h1r' hf1).mono ?_
    rintro e w2 ⟨rfl, hb2⟩
    rw [H4.out]
    have T2 := below_next T1 hb2 rfl
    have T2b := below_next T1' hb2 rfl
    replace BX := BX.next hb2
    replace BY := BY.next hb2
    have O2 := own_next O1 hb2
    replace h1r := h1r.next stab_RVI hb2
    replace h1r' := h1r'.next stab_RVI hb2
    replace hf1 := hf1.next stab_RI hb2
    clear cX cY hb2 O1
    go_wp2_with fail
    go_loopw [8, 9] (fun v i wr => ∃ (k : Nat) (acc : List Int), k ≤ m ∧ i = .int .i64 k ∧ acc = upR (leF xss) (leF yss) fs l k ∧ (∀ y < k, 0 ≤ gUp (leF xss) (leF yss) fs l y) ∧ Gat w0.heap.size w0 wr v k acc ∧ Blk wr w.heap.size 26 #[.slice A l c] ∧ Blk wr (w.heap.size + 1) 26 #[.slice B m d] ∧ Below w.heap.size w wr) (fun _ i _ => m - (intOf i).toNat)
    case atStart => exact ⟨0, [], Nat.zero_le _, rfl, rfl, upto0, ⟨_, _, rfl, rfl, O2, T2b⟩, BX, BY, T2⟩
    case round =>
      obtain ⟨k, acc, hk, rfl, hacc2, hpos, ⟨A', c', rfl, hacc, hown, hT0⟩, BX, BY, hT⟩ := hrel
      have HA := Lib.hid hacc
      have HA2 := Lib.hid hacc2
      have HP := Lib.hid hpos
      clear hacc hacc2 hpos
      replace h1r := h.next stab_RVI hT
      replace h1r' := h'.next stab_RVI hT
      replace hf1 := hf.next stab_RI hT
      have hle := h.le
      have hle' := h'.le
      obtain ⟨wo, hwo⟩ : ∃ wo : World, wo = wr := ⟨_, rfl⟩
      subst hwo
      have cX := BX.c0
      have cY := BY.c0
      by_cases hlt : k < m
      · have hk0 : (0 : Int) ≤ (k : Int) := by omega
        have hk1 : (k : Int) < (m : Int) := by omega
        have hwlo := hT.size
        have hBXl := BX.lt
        have hBYl := BY.lt
        go_wp2_with fail
        go_loopw [10, 11] (fun v i wi => ∃ (q p : Nat) (ac : List Int), q ≤ l ∧ p ≤ q ∧ i = .int .i64 q ∧ ac = rowTo (upF (leF yss) fs) k q ∧ Gat wo.heap.size wo wi v p ac) (fun _ i _ => l - (intOf i).toNat)
        case atStart => exact ⟨0, 0, [], Nat.zero_le _, Nat.le_refl _, rfl, rfl, _, _, rfl, rfl, World.ownsRow_lit _ _ _ (Nat.le_refl _) (Nat.zero_le _) rfl, below_box _ _⟩
        case round =>
          obtain ⟨q, p, ac, hq, hpq, rfl, hac2, A6, c6, rfl, hac, how6, hTi⟩ := hrel
          have HC := Lib.hid hac
          have HC2 := Lib.hid hac2
          clear hac hac2 cX cY
          have cX := (BX.next hTi).c0
          have cY := (BY.next hTi).c0
          by_cases hltq : q < l
          · have hq0 : (0 : Int) ≤ (q : Int) := by omega
            have hq1 : (q : Int) < (l : Int) := by omega
            obtain ⟨fb, fo, v, x', rfl, hcf, ⟨rfl, -⟩, -, hx⟩ := (hf1.next stab_RI hTi).at hltq
            have hxm := HIN.out x' (List.mem_of_getElem? hx)
            obtain ⟨x', rfl⟩ := Int.eq_ofNat_of_zero_le hxm.1
            have HX := Lib.hid (fAt_get hx)
            have hh' := h1r'.next stab_RVI hTi
            obtain ⟨b1, HS1⟩ : ∃ b, Hid (hasI (x' : Int) (rowOf yss k) = b) := ⟨_, rfl⟩
            have HR1 : Hid (upF (leF yss) fs q k = b1) := by show _ = _; unfold upF; rw [HX.out]; exact HS1.out
            have HC1 : ∀ wz, Below wr.heap.size wr wz → Calls Try.prog 25 #[.agg #[.slice B m d], .int .i64 x', .int .i64 k] wz (Bl wz (.bool b1)) := fun wz hz => by
              have := l23Leq_any B m d yss (x' : Int) k wz (hh'.next stab_RVI hz) hlt
              rwa [HS1.out] at this
            clear hx hxm
            have Tk : Below wr.heap.size wr wr := Below.refl _ _
            go_upto_region 11 with fail
            go_region_held3 (fun w' => w'.cell? ⟨w.heap.size + 1, 0, none⟩ = some (.slice B m d) ∧ w'.cell? ⟨fb, fo + q, none⟩ = some (.int .i64 x')) (first | go_keep | exact ⟨keepc Tk cY, keepc Tk hcf⟩) (first
              | (go_at_call 25; (with_reducible refine (HC1 _ ?_).mono ?_); (first | exact Tk | exact Below.drew Tk); rintro e wn ⟨rfl, hbn⟩; replace Tk := below_next (by first | exact Tk | exact Below.drew Tk) hbn rfl))
            have how7 := own_next how6 Tk
            have hT7 := below_next hTi Tk rfl
            have hs7 := hT7.size
            rcases b1 with _ | _
            · go_wp2_with fail
              go_roundw
              case rel => exact ⟨q + 1, p, ac, by omega, by omega, by go_num, by rw [rowTo_succ, if_neg (by rw [HR1.out]; decide)]; exact HC2.out, A6, c6, rfl, HC.out, how7, hT7⟩
              case measure => simp [intOf]; omega
            · go_wp2_with (at_builtin; refine app1 wn rfl _ _ 27 3 rfl (.int .i64 0) 8 Try.underlying27 info_int rfl (by decide) wo.heap.size p c6 A6 (ints ac) rfl how7 (.int .i64 q) rfl rfl (by omega) hs7 ?_; intro A8 c8 w8 hown8 hg8 hb8)
              go_roundw
              case rel => exact ⟨q + 1, p + 1, ac ++ [(q : Int)], by omega, by omega, by go_num, by rw [rowTo_succ, if_pos HR1.out, HC2.out], A8, c8, rfl, by simp [HC.out], by rw [ints_snoc]; exact hown8, hT7.trans hb8⟩
              case measure => simp [intOf]; omega
          · obtain rfl : q = l := by omega
            have hlt' : ¬ (q : Int) < (q : Int) := by omega
            obtain ⟨L, HL⟩ : ∃ L, Hid (rowTo (upF (leF yss) fs) k q = L) := ⟨_, rfl⟩
            have HGU : Hid (gUp (leF xss) (leF yss) fs q k = grI (leF xss) L) := by show _ = _; unfold gUp; rw [HL.out]
            have HLin : Hid (∀ v ∈ L, 0 ≤ v ∧ v ≤ (q : Int) - 1) := by show ∀ v ∈ L, _; rw [← HL.out]; exact row_in
            have HLL : Hid (L.length = p) := by show _ = _; rw [← HL.out, ← HC2.out]; exact HC.out
            rw [HC2.out, HL.out] at how6
            have R6 := rd_of_own (R := RI) how6 (RI_ints fun v hv => by have := HLin.out v hv; omega)
            have hT6 := below_next hT hTi rfl
            replace hown := own_next hown hTi
            replace BX := BX.next hTi
            replace BY := BY.next hTi
            replace h1r := h1r.next stab_RVI hTi
            have hT60 := below_next hT0 hTi rfl
            clear how6 cX cY HC HC2
            obtain ⟨w6, hw6⟩ : ∃ w6 : World, w6 = wr := ⟨_, rfl⟩
            subst hw6
            go_wp2_with fail
            go_loopw [12, 13] (fun b i wi => ∃ j : Nat, j ≤ p ∧ i = .int .i64 j ∧ BestP (leF xss) L j b ∧ Below w6.heap.size w6 wi) (fun _ i _ => p - (intOf i).toNat)
            case atStart => exact ⟨0, Nat.zero_le _, rfl, .inl ⟨rfl, fun j hj => absurd hj (by omega)⟩, Below.refl _ _⟩
            case round =>
              obtain ⟨j, hj, rfl, HB, hTj⟩ := hrel
              have HBB := Lib.hid HB
              by_cases hltj : j < p
              · have hj0 : (0 : Int) ≤ (j : Int) := by omega
                have hj1 : (j : Int) < (p : Int) := by omega
                obtain ⟨b6, o6, v, x', rfl, hc6, ⟨rfl, -⟩, -, hx⟩ := (R6.next stab_RI hTj).at hltj
                have hxm := HLin.out x' (List.mem_of_getElem? hx)
                obtain ⟨x', rfl⟩ := Int.eq_ofNat_of_zero_le hxm.1
                have hx0 : (0 : Int) ≤ (x' : Int) := by omega
                have hx1 : (x' : Int) < (q : Int) := by omega
                obtain ⟨bb, oo, v, t, rfl, hct, ⟨B7, j7, d7, rfl, ht⟩, -, hxt⟩ := (h1r.next stab_RVI hTj).at (k := x') (by omega)
                have cX := (BX.next hTj).c0
                have HXX := Lib.hid hx
                have hR6 := R6.next stab_RI hTj
                obtain ⟨b1, HS1⟩ : ∃ b, Hid (partL t L = b) := ⟨_, rfl⟩
                have HR1 : Hid (belowAll (leF xss) L (x' : Int) = b1) := by
                  show _ = _
                  rw [← belowAll_part (fun v hv => (HLin.out v hv).1) (rowOf_get hxt)]
                  exact HS1.out
                have HC1 : ∀ wz, Below wr.heap.size wr wz → Calls Try.prog 34 #[.slice (some ⟨b6, o6, none⟩) p c6, .slice B7 j7 d7] wz fun e w' => e = .returned (.bool b1) ∧ wz = w' := fun wz hz => by
                  have := l5Within_any (some ⟨b6, o6, none⟩) B7 p j7 c6 d7 L t wz (hR6.next stab_RI hz) (ht.next stab_RI hz)
                  rwa [HS1.out] at this
                clear hx hxm hxt HB
                have Tk : Below wr.heap.size wr wr := Below.refl _ _
                go_upto_region 17 with fail
                go_region_held3 (fun w' => w'.cell? ⟨w.heap.size, 0, none⟩ = some (.slice (some ⟨bb, oo, none⟩) q c) ∧ w'.cell? ⟨b6, o6 + j, none⟩ = some (.int .i64 x') ∧ w'.cell? ⟨bb, oo + x', none⟩ = some (.slice B7 j7 d7)) (first | go_keep | exact ⟨keepc Tk cX, keepc Tk hc6, keepc Tk hct⟩) (first
                  | (go_at_call 34; (with_reducible refine (HC1 _ ?_).mono ?_); (first | exact Tk | exact Below.drew Tk | exact below_drewN Tk _); rintro e wn ⟨rfl, rfl⟩))
                rcases b1 with _ | _
                · go_wp2_with fail
                  go_roundw
                  case rel => exact ⟨j + 1, by omega, by go_num, HBB.out.keep HXX.out HR1.out, by first | exact hTj | exact Below.drew hTj | exact below_drewN hTj _⟩
                  case measure => simp [intOf]; omega
                · go_wp2_with fail
                  go_roundw
                  case rel => exact ⟨j + 1, by omega, by go_num, .inr ⟨by rw [gr_last HORD.out HLin.out (List.mem_of_getElem? HXX.out) HR1.out], by rw [gr_last HORD.out HLin.out (List.mem_of_getElem? HXX.out) HR1.out]; omega⟩, by first | exact hTj | exact Below.drew hTj | exact below_drewN hTj _⟩
                  case measure => simp [intOf]; omega
              · obtain rfl : j = p := by omega
                have hlt2 : ¬ (j : Int) < (j : Int) := by omega
                obtain rfl := HB.done (by rw [HLL.out]; exact Nat.le_refl _)
                replace hown := own_next hown hTj
                have hT7 := below_next hT6 hTj rfl
                have hT70 := below_next hT60 hTj rfl
                have hs70 := hT70.size
                clear HB HBB
                have BX7 := BX.next hTj
                have BY7 := BY.next hTj
                rcases gUp_in (F := leF xss) (G := leF yss) (fs := fs) (n := q) (y := k) with hv | hv
                · have HNO : Hid (upB q m q xss yss fs = false) := by
                    show _ = _
                    rw [HUB.out, ← tt_false]
                    exact fun hh => by have := hh.1 k hlt; omega
                  rw [HGU.out] at hv
                  rw [hv]
                  clear hv
                  go_wp2_with fail
                  go_ret2
                  exact UpE.no HNO.out (World.ownsRow_lit _ #[] 0 hT7.size (Nat.zero_le _) rfl) (below_next hT7 (below_box _ _) rfl)
                · obtain ⟨V, HV⟩ : ∃ V, Hid (grI (leF xss) L = V) := ⟨_, rfl⟩
                  have HGV : Hid (gUp (leF xss) (leF yss) fs q k = V) := by show _ = _; rw [HGU.out, HV.out]
                  rw [HV.out]
                  rw [HGV.out] at hv
                  have hv0 : ¬ V < 0 := by omega
                  go_wp2_with (at_builtin; refine app1 wr rfl _ _ 27 3 rfl (.int .i64 0) 8 Try.underlying27 info_int rfl (by decide) w0.heap.size k c' A' (ints acc) rfl hown (.int .i64 V) rfl rfl (by omega) hs70 ?_; intro A2 c2 w8 hown2 hg2 hb2)
                  go_roundw
                  case rel => exact ⟨k + 1, acc ++ [V], by omega, by go_num, by rw [upR_succ, HA2.out, HGV.out], upto HP.out (by rw [HGV.out]; omega), ⟨A2, c2, rfl, by simp [HA.out], by rw [ints_snoc]; exact hown2, hT70.trans hb2⟩, BX7.below hb2 (by rw [HS0.out]; omega), BY7.below hb2 (by rw [HS0.out]; omega), hT7.trans (hb2.mono (by rw [HS0.out]; omega))⟩
                  case measure => simp [intOf]; omega
      · obtain rfl : k = m := by omega
        have hlt' : ¬ (k : Int) < (k : Int) := by omega
        have Rg : RdL RI wo A' k (upR (leF xss) (leF yss) fs l k) := by
          rw [← HA2.out]
          exact rd_of_own (R := RI) hown (RI_ints fun v hv => by
            rw [HA2.out] at hv
            have := upR_in HP.out v hv
            omega)
        have HGIN := Lib.hid (upR_in HP.out)
        rcases ha : tt (AdjP l k (leF xss) (leF yss) fs (upR (leF xss) (leF yss) fs l k)) with _ | _
        · have HAD := Lib.hid ha
          have HNO : Hid (upB l k l xss yss fs = false) := by
            show _ = _
            rw [HUB.out, ← tt_false]
            intro hh
            rw [← tt_true hh.2] at ha
            cases ha
          clear ha
          go_wp2_with fail
          refine (l30Adjoint_any _ _ _ _ _ _ _ _ _ _ _ _ _ _ _ h1r h1r' hf1 Rg HIN.out HGIN.out).mono ?_
          rintro e w7 ⟨rfl, hb7⟩
          rw [HAD.out]
          have hTz := below_next hT hb7 rfl
          go_wp2_with fail
          go_ret2
          exact UpE.no HNO.out (World.ownsRow_lit _ #[] 0 hTz.size (Nat.zero_le _) rfl) (below_next hTz (below_box _ _) rfl)
        · have HAD := Lib.hid ha
          have HYES : Hid (upB l k l xss yss fs = true) := by
            show _ = _
            rw [HUB.out, ← tt_true]
            exact ⟨HP.out, tt_iff.1 ha⟩
          clear ha
          go_wp2_with fail
          refine (l30Adjoint_any _ _ _ _ _ _ _ _ _ _ _ _ _ _ _ h1r h1r' hf1 Rg HIN.out HGIN.out).mono ?_
          rintro e w7 ⟨rfl, hb7⟩
          rw [HAD.out]
          have hTz := below_next hT hb7 rfl
          go_wp2_with fail
          go_ret2
          exact UpE.yes HYES.out (by rw [← HA2.out]; exact own_lowB (own_next hown hb7) hb.size) hTz
theorem upB_good {n m l : Nat} {xss yss : List (List Int)} {fs : List Int} (h : upB n m l xss yss fs = true) : GoodP xss ∧ GoodP yss ∧ UpP n m (leF xss) (leF yss) fs := by
  unfold upB at h
  rw [Bool.and_eq_true] at h
  obtain ⟨h1, h2, -⟩ := mapS_true h.1
  exact ⟨h1, h2, tt_iff.1 h.2⟩
theorem upL_len {w : World} {B : Option Addr} {n m l : Nat} {xss yss : List (List Int)} {fs : List Int} (h : RdL (RV RI) w B m yss) : (upL n m l xss yss fs).length ≤ 10 := by
  unfold upL
  split
  · rename_i hb
    rw [upR_len, ← h.len]
    exact (upB_good hb).2.1.1
  · exact Nat.zero_le _
theorem upL_bounds {w : World} {A : Option Addr} {n m l : Nat} {xss yss : List (List Int)} {fs : List Int} (h : RdL (RV RI) w A n xss) : ∀ x ∈ upL n m l xss yss fs, -9223372036854775808 ≤ x ∧ x ≤ 9223372036854775807 := by
  intro x hx
  unfold upL at hx
  split at hx
  · rename_i hb
    have := upR_in (upB_good hb).2.2.1 x hx
    have h10 : xss.length ≤ 10 := (upB_good hb).1.1
    rw [h.len] at h10
    omega
  · simp at hx
end Go.Proofs.Ytlncpabnlnipoaa
