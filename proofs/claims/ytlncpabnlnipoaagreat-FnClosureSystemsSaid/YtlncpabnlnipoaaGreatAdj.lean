
/- Walks: the closure of UpperAdjoint, those, greatest. -/
import Derived.Test.YtlncpabnlnipoaaGreatMono
import Derived.Deep.RegionHeld3
import Derived.Deep.DeepCutAuto
namespace Go.Proofs.YtlncpabnlnipoaaGreat
open Go.RowKit

def upF (G : Nat → Nat → Bool) (fs : List Int) : Nat → Nat → Bool := fun a b => G (fAt fs a) b

end Go.Proofs.YtlncpabnlnipoaaGreat
namespace Go.Proofs.YtlncpabnlnipoaaGreat
open Go.RowKit

def belowAll (F : Nat → Nat → Bool) (xs : List Int) (x : Int) : Bool := xs.all fun z => F z.toNat x.toNat
def grI (F : Nat → Nat → Bool) (xs : List Int) : Int := (xs.find? (belowAll F xs)).getD (-1)
theorem all_take_succ {f : Int → Bool} {xs : List Int} {q : Nat} {v : Int} (h : xs[q]? = some v) : (xs.take (q + 1)).all f = ((xs.take q).all f && f v) := by
  rw [List.take_add_one, h]
  simp
theorem find_at {P : Int → Bool} : ∀ {xs : List Int} {k : Nat} {v : Int}, (∀ j < k, ∀ u, xs[j]? = some u → P u = false) → xs[k]? = some v → P v = true → xs.find? P = some v
  | [], k, v, _, h, _ => by simp at h
  | x :: xs, 0, v, _, h, h2 => by simp at h; subst h; simp [h2]
  | x :: xs, k + 1, v, h0, h, h2 => by
    have hx := h0 0 (by omega) x (by simp)
    rw [List.find?_cons, hx]
    exact find_at (fun j hj u hu => h0 (j + 1) (Nat.succ_lt_succ hj) u (by simpa using hu)) (by simpa using h) h2
theorem find_none {P : Int → Bool} {xs : List Int} (h : ∀ j < xs.length, ∀ u, xs[j]? = some u → P u = false) : xs.find? P = none := by
  rw [List.find?_eq_none]
  intro x hx
  obtain ⟨j, hj⟩ := List.getElem?_of_mem hx
  rw [h j (List.getElem?_eq_some_iff.1 hj).1 x hj]
  decide
theorem grI_mem {F : Nat → Nat → Bool} {xs : List Int} {n : Nat} (h : ∀ x ∈ xs, 0 ≤ x ∧ x ≤ (n : Int) - 1) : grI F xs = -1 ∨ (0 ≤ grI F xs ∧ grI F xs ≤ (n : Int) - 1 ∧ grI F xs ∈ xs) := by
  unfold grI
  rcases e : xs.find? (belowAll F xs) with _ | v
  · exact .inl rfl
  · have := h v (List.mem_of_find?_eq_some e)
    exact .inr ⟨this.1, this.2, List.mem_of_find?_eq_some e⟩

set_option maxRecDepth 20000 in
set_option maxHeartbeats 2000000 in
theorem greatest_any (A C : Option Addr) (n c l e : Nat) (F : Nat → Nat → Bool) (xs : List Int) (w : World) (h : RdL (RV RB) w A n (tab n F)) (hf : RdL RI w C l xs) (hin : ∀ x ∈ xs, 0 ≤ x ∧ x ≤ (n : Int) - 1) :
    Calls Tryz.prog 79 #[.slice A n c, .slice C l e] w (Qt w (.int .i64 (grI F xs))) := by
  have hle := h.le
  have hle' := hf.le
  have HIN := Lib.hid hin
  have HL := Lib.hid hf.len
  clear hin
  go_enter Tryz.func79, Tryz.ntmps79
  go_wp2
  go_loopw [12] (fun i wr => ∃ k : Nat, k ≤ l ∧ i = .int .i64 k ∧ Hid (∀ j < k, ∀ u, xs[j]? = some u → belowAll F xs u = false) ∧ Drawn w wr) (fun i _ => l - (intOf i).toNat)
  case atStart => exact ⟨0, Nat.zero_le _, rfl, fun j hj => absurd hj (by omega), Drawn.zero _⟩
  case round =>
    obtain ⟨k, hk, rfl, HH, z, rfl⟩ := hrel
    by_cases hlt : k < l
    · have hk0 : (0 : Int) ≤ (k : Int) := by omega
      have hk1 : (k : Int) < (l : Int) := by omega
      obtain ⟨fb, fo, rfl⟩ := hf.addr hlt
      obtain ⟨v, x', hcf, ⟨rfl, -⟩, -, hx⟩ := hf.at' hlt
      have hxm := HIN.out x' (List.mem_of_getElem? hx)
      obtain ⟨x', rfl⟩ := Int.eq_ofNat_of_zero_le hxm.1
      have hx0 : (0 : Int) ≤ (x' : Int) := by omega
      have hx1 : (x' : Int) < (n : Int) := by omega
      have hxn : x' < n := by omega
      obtain ⟨b2, o2, rfl⟩ := h.addr hxn
      have HX := Lib.hid hx
      clear hx hxm
      go_wp2
      go_loopw [7, 18] (fun b i wr => ∃ q : Nat, q ≤ l ∧ i = .int .i64 q ∧ b = .bool ((xs.take q).all fun z => F z.toNat x') ∧ Drawn w wr) (fun _ i _ => l - (intOf i).toNat)
      case atStart => exact ⟨0, Nat.zero_le _, rfl, rfl, (by first | exact Drawn.zero _ | exact Drawn.at_ _ _ | exact (Drawn.at_ _ _).more _ | exact ((Drawn.at_ _ _).more _).more _)⟩
      case round =>
        obtain ⟨q, hq, rfl, rfl, z, rfl⟩ := hrel
        by_cases hltq : q < l
        · obtain ⟨v, y', hcg, ⟨rfl, -⟩, -, hy⟩ := hf.at' hltq
          have hym := HIN.out y' (List.mem_of_getElem? hy)
          obtain ⟨y', rfl⟩ := Int.eq_ofNat_of_zero_le hym.1
          have hy0 : (0 : Int) ≤ (y' : Int) := by omega
          have hy1 : (y' : Int) < (n : Int) := by omega
          have hq0 : (0 : Int) ≤ (q : Int) := by omega
          have hq1 : (q : Int) < (l : Int) := by omega
          obtain ⟨r2, p2, d2, hc2, hall2⟩ := h.rowT (show y' < n by omega)
          have hxy := hall2 x' hxn
          have HS := Lib.hid (all_take_succ (f := fun z => F z.toNat x') hy)
          clear hall2 hy hym
          obtain ⟨B, HB⟩ : ∃ B, Hid (((xs.take q).all fun z => F z.toNat x') = B) := ⟨_, rfl⟩
          rw [HB.out]
          rcases B with _ | _
          · go_wp2
            go_roundw
            case rel => exact ⟨q + 1, by omega, by go_num, by rw [HS.out, HB.out]; rfl, (by first | exact Drawn.zero _ | exact Drawn.at_ _ _ | exact (Drawn.at_ _ _).more _ | exact ((Drawn.at_ _ _).more _).more _)⟩
            case measure => simp [intOf]; omega
          · go_wp2
            go_roundw
            case rel => exact ⟨q + 1, by omega, by go_num, by rw [HS.out, HB.out]; rfl, (by first | exact Drawn.zero _ | exact Drawn.at_ _ _ | exact (Drawn.at_ _ _).more _ | exact ((Drawn.at_ _ _).more _).more _)⟩
            case measure => simp [intOf]; omega
        · obtain rfl : q = l := by omega
          have hlt' : ¬ (q : Int) < (q : Int) := by omega
          have HT : Hid (((xs.take q).all fun z => F z.toNat x') = belowAll F xs x') := by
            show _ = _
            rw [List.take_of_length_le (by rw [HL.out]; exact Nat.le_refl _)]
            rfl
          obtain ⟨B, HB⟩ : ∃ B, Hid (((xs.take q).all fun z => F z.toNat x') = B) := ⟨_, rfl⟩
          rw [HB.out]
          rcases B with _ | _
          · go_wp2
            go_roundw
            case rel => exact ⟨k + 1, by omega, by go_num, fun j hj u hu => by
              rcases Nat.lt_or_ge j k with h1 | h1
              · exact HH.out j h1 u hu
              · obtain rfl : j = k := by omega
                rw [HX.out] at hu
                injection hu with hu
                rw [← hu, ← HT.out, HB.out], (by first | exact Drawn.zero _ | exact Drawn.at_ _ _ | exact (Drawn.at_ _ _).more _ | exact ((Drawn.at_ _ _).more _).more _)⟩
            case measure => simp [intOf]; omega
          · go_wp2
            go_ret
            exact ⟨by
              have := find_at HH.out HX.out (by rw [← HT.out, HB.out])
              unfold grI
              rw [this]
              rfl, (by first | exact Drawn.zero _ | exact Drawn.at_ _ _ | exact (Drawn.at_ _ _).more _ | exact ((Drawn.at_ _ _).more _).more _)⟩
    · obtain rfl : k = l := by omega
      have hlt' : ¬ (k : Int) < (k : Int) := by omega
      have HN : Hid (grI F xs = -1) := by
        show _ = _
        unfold grI
        rw [find_none (fun j hj u hu => HH.out j (by rw [← HL.out]; exact hj) u hu)]
        rfl
      go_wp2
      go_ret
      exact ⟨by rw [HN.out]; rfl, (by first | exact Drawn.zero _ | exact Drawn.at_ _ _ | exact (Drawn.at_ _ _).more _ | exact ((Drawn.at_ _ _).more _).more _)⟩

def AdjXY (F G : Nat → Nat → Bool) (fs gs : List Int) (x y : Nat) : Prop := G (fAt fs x) y = F x (fAt gs y)
def AdjP (n m : Nat) (F G : Nat → Nat → Bool) (fs gs : List Int) : Prop := ∀ x < n, ∀ y < m, AdjXY F G fs gs x y
theorem AdjXY.yes {F G : Nat → Nat → Bool} {fs gs : List Int} {x y x' y' : Nat} {a b : Bool} (hx : fAt fs x = x') (hy : fAt gs y = y') (h1 : G x' y = a) (h2 : F x y' = b) (h : a = b) : AdjXY F G fs gs x y := by
  unfold AdjXY; rw [hx, hy, h1, h2]; exact h
theorem AdjXY.no {F G : Nat → Nat → Bool} {fs gs : List Int} {x y x' y' : Nat} {a b : Bool} (hx : fAt fs x = x') (hy : fAt gs y = y') (h1 : G x' y = a) (h2 : F x y' = b) (h : a ≠ b) : ¬ AdjXY F G fs gs x y := by
  unfold AdjXY; rw [hx, hy, h1, h2]; exact h

end Go.Proofs.YtlncpabnlnipoaaGreat
namespace Go.Proofs.YtlncpabnlnipoaaGreat
open Go.RowKit

theorem own_lowB {w : World} {b b' e s n : Nat} {v : Value} {xs : List Value} (h : w.ownsRow b e s v n xs) (hb : b' ≤ b) : w.ownsRow b' e s v n xs := by
  refine ⟨h.1, ?_⟩
  rcases h.2 with h2 | ⟨g, cap, cur, hv, hg, rest⟩
  · exact .inl h2
  · exact .inr ⟨g, cap, cur, hv, by omega, rest⟩
theorem boxes3a (w : World) (ca cb cc : Array Value) (ta tb tc : TypeId) : ∃ w3, w3 = ((w.alloc (.cells ca ta)).alloc (.cells cb tb)).alloc (.cells cc tc) ∧ Below w.heap.size w w3 ∧ w3.heap.size = w.heap.size + 3 ∧ Blk w3 w.heap.size ta ca ∧ Blk w3 (w.heap.size + 1) tb cb ∧ Blk w3 (w.heap.size + 2) tc cc := by
  refine ⟨_, rfl, below_box3 _ _ _ _, by simp, ((Blk.new w _ _).next (below_box _ _)).next (below_box _ _), ?_, ?_⟩
  · have := (Blk.new (w.alloc (.cells ca ta)) tb cb).next (below_box _ (.cells cc tc))
    rwa [World.size_alloc] at this
  · have := Blk.new ((w.alloc (.cells ca ta)).alloc (.cells cb tb)) tc cc
    rwa [World.size_alloc, World.size_alloc] at this
theorem boxes1a (w : World) (cp : Array Value) (tp : TypeId) : ∃ w3, w3 = w.alloc (.cells cp tp) ∧ Below w.heap.size w w3 ∧ w3.heap.size = w.heap.size + 1 ∧ Blk w3 w.heap.size tp cp := ⟨_, rfl, below_box _ _, by simp, Blk.new _ _ _⟩

def gUp (F G : Nat → Nat → Bool) (fs : List Int) (n y : Nat) : Int := grI F (rowTo (upF G fs) y n)
def upR (F G : Nat → Nat → Bool) (fs : List Int) (n k : Nat) : List Int := (List.range k).map (gUp F G fs n)
theorem upR_succ (F G : Nat → Nat → Bool) (fs : List Int) (n k : Nat) : upR F G fs n (k + 1) = upR F G fs n k ++ [gUp F G fs n k] := by simp [upR, List.range_succ]
theorem upR_len (F G : Nat → Nat → Bool) (fs : List Int) (n k : Nat) : (upR F G fs n k).length = k := by simp [upR]
def UpP (n m : Nat) (F G : Nat → Nat → Bool) (fs : List Int) : Prop := (∀ y < m, 0 ≤ gUp F G fs n y) ∧ AdjP n m F G fs (upR F G fs n m)
theorem row_in {F : Nat → Nat → Bool} {x n : Nat} : ∀ v ∈ rowTo F x n, 0 ≤ v ∧ v ≤ (n : Int) - 1 := fun v hv => by
  obtain ⟨y, hy, -, rfl⟩ := rowTo_mem.1 hv
  omega
theorem gUp_in {F G : Nat → Nat → Bool} {fs : List Int} {n y : Nat} : gUp F G fs n y = -1 ∨ (0 ≤ gUp F G fs n y ∧ gUp F G fs n y ≤ (n : Int) - 1) := by
  rcases grI_mem (F := F) (xs := rowTo (upF G fs) y n) row_in with h | h
  · exact .inl h
  · exact .inr ⟨h.1, h.2.1⟩
theorem upR_in {F G : Nat → Nat → Bool} {fs : List Int} {n k : Nat} (h : ∀ y < k, 0 ≤ gUp F G fs n y) : ∀ v ∈ upR F G fs n k, 0 ≤ v ∧ v ≤ (n : Int) - 1 := fun v hv => by
  unfold upR at hv
  rw [List.mem_map] at hv
  obtain ⟨y, hy, rfl⟩ := hv
  have h0 := h y (by simpa using hy)
  rcases gUp_in (F := F) (G := G) (fs := fs) (n := n) (y := y) with h1 | h1
  · omega
  · exact h1
noncomputable def upB (n m l : Nat) (xss yss : List (List Int)) (fs : List Int) : Bool := mapS n m l xss yss fs && tt (UpP n m (leF xss) (leF yss) fs)
noncomputable def upL (n m l : Nat) (xss yss : List (List Int)) (fs : List Int) : List Int := if upB n m l xss yss fs then upR (leF xss) (leF yss) fs n m else []
def UpE (w : World) (n m l : Nat) (xss yss : List (List Int)) (fs : List Int) (e : Ending) (w' : World) : Prop :=
  ∃ A k c, e = .returned (.tuple #[.slice A k c, .bool (upB n m l xss yss fs)]) ∧ w'.ownsRow w.heap.size 3 1 (.slice A k c) k (ints (upL n m l xss yss fs)) ∧ Below w.heap.size w w'
theorem UpE.no {w w' : World} {n m l : Nat} {xss yss : List (List Int)} {fs : List Int} {A : Option Addr} {c : Nat} (h : upB n m l xss yss fs = false) (ho : w'.ownsRow w.heap.size 3 1 (.slice A 0 c) 0 []) (hb : Below w.heap.size w w') : UpE w n m l xss yss fs (.returned (.tuple #[.slice A 0 c, .bool false])) w' := by
  have e : upL n m l xss yss fs = [] := by unfold upL; rw [h]; rfl
  exact ⟨A, 0, c, by rw [h], by rw [e]; exact ho, hb⟩
theorem UpE.yes {w w' : World} {n m l k : Nat} {xss yss : List (List Int)} {fs : List Int} {A : Option Addr} {c : Nat} (h : upB n m l xss yss fs = true) (ho : w'.ownsRow w.heap.size 3 1 (.slice A k c) k (ints (upR (leF xss) (leF yss) fs n m))) (hb : Below w.heap.size w w') : UpE w n m l xss yss fs (.returned (.tuple #[.slice A k c, .bool true])) w' := by
  have e : upL n m l xss yss fs = upR (leF xss) (leF yss) fs n m := by unfold upL; rw [h]; rfl
  exact ⟨A, k, c, by rw [h], by rw [e]; exact ho, hb⟩

end Go.Proofs.YtlncpabnlnipoaaGreat
namespace Go.Proofs.YtlncpabnlnipoaaGreat
open Go.RowKit

theorem belowAll_part {xss : List (List Int)} {xs : List Int} {x : Nat} {r : List Int} (hin : ∀ v ∈ xs, 0 ≤ v) (hr : rowOf xss x = r) : partL r xs = belowAll (leF xss) xs x := by
  rw [Bool.eq_iff_iff, partL_iff]
  unfold belowAll leF
  rw [List.all_eq_true]
  constructor
  · intro h z hz
    have h0 := hin z hz
    rw [show ((z.toNat : Nat) : Int) = z by omega, Int.toNat_natCast, hr]
    exact hasI_iff.2 (h z hz)
  · intro h z hz
    have h0 := hin z hz
    have := h z hz
    rw [show ((z.toNat : Nat) : Int) = z by omega, Int.toNat_natCast, hr] at this
    exact hasI_iff.1 this
theorem gr_last {n : Nat} {F : Nat → Nat → Bool} {xs : List Int} {v : Int} (hO : OrdP n F) (hin : ∀ x ∈ xs, 0 ≤ x ∧ x ≤ (n : Int) - 1) (hv : v ∈ xs) (hP : belowAll F xs v = true) : grI F xs = v := by
  unfold grI
  rcases e : xs.find? (belowAll F xs) with _ | u
  · rw [List.find?_eq_none] at e
    exact absurd hP (e v hv)
  · have hu := List.find?_some e
    have hum := List.mem_of_find?_eq_some e
    unfold belowAll at hP hu
    rw [List.all_eq_true] at hP hu
    have h1 := hP u hum
    have h2 := hu v hv
    have b1 := hin u hum
    have b2 := hin v hv
    by_cases hne : u = v
    · exact hne
    · exact absurd ⟨by omega, h1, h2⟩ ((hO u.toNat (by omega)).2 v.toNat (by omega)).1
end Go.Proofs.YtlncpabnlnipoaaGreat
namespace Go.Proofs.YtlncpabnlnipoaaGreat
open Go.RowKit

def BestP (F : Nat → Nat → Bool) (xs : List Int) (q : Nat) (b : Value) : Prop := (b = .int .i64 (-1) ∧ ∀ j < q, ∀ u, xs[j]? = some u → belowAll F xs u = false) ∨ (b = .int .i64 (grI F xs) ∧ 0 ≤ grI F xs)
theorem BestP.keep {F : Nat → Nat → Bool} {xs : List Int} {q : Nat} {b : Value} {v : Int} (h : BestP F xs q b) (hv : xs[q]? = some v) (hP : belowAll F xs v = false) : BestP F xs (q + 1) b := by
  rcases h with ⟨h1, h2⟩ | h
  · refine .inl ⟨h1, fun j hj u hu => ?_⟩
    rcases Nat.lt_or_ge j q with h3 | h3
    · exact h2 j h3 u hu
    · obtain rfl : j = q := by omega
      rw [hv] at hu
      injection hu with hu
      rw [← hu]
      exact hP
  · exact .inr h
theorem BestP.done {F : Nat → Nat → Bool} {xs : List Int} {q : Nat} {b : Value} (h : BestP F xs q b) (hq : xs.length ≤ q) : b = .int .i64 (grI F xs) := by
  rcases h with ⟨h1, h2⟩ | h
  · rw [h1]
    unfold grI
    rw [find_none (fun j hj u hu => h2 j (by omega) u hu)]
    rfl
  · exact h.1

theorem upB_good {n m l : Nat} {xss yss : List (List Int)} {fs : List Int} (h : upB n m l xss yss fs = true) : GoodP xss ∧ GoodP yss ∧ UpP n m (leF xss) (leF yss) fs := by
  unfold upB at h
  rw [Bool.and_eq_true] at h
  obtain ⟨h1, h2, -⟩ := mapS_true h.1
  exact ⟨h1, h2, tt_iff.1 h.2⟩
theorem upL_len {w : World} {B : Option Addr} {n m l : Nat} {xss yss : List (List Int)} {fs : List Int} (h : RdL (RV RI) w B m yss) : (upL n m l xss yss fs).length ≤ 10 := by
  unfold upL
  split
  · rename_i hb
    rw [upR_len, ← h.len]
    exact (upB_good hb).2.1.1
  · exact Nat.zero_le _
theorem upL_bounds {w : World} {A : Option Addr} {n m l : Nat} {xss yss : List (List Int)} {fs : List Int} (h : RdL (RV RI) w A n xss) : ∀ x ∈ upL n m l xss yss fs, -9223372036854775808 ≤ x ∧ x ≤ 9223372036854775807 := by
  intro x hx
  unfold upL at hx
  split at hx
  · rename_i hb
    have := upR_in (upB_good hb).2.2.1 x hx
    have h10 : xss.length ≤ 10 := (upB_good hb).1.1
    rw [h.len] at h10
    omega
  · simp at hx
end Go.Proofs.YtlncpabnlnipoaaGreat
