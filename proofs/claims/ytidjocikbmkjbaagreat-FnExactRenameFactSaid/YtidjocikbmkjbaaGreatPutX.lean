
/- Walks: l1Put, its answer told whole. Printed by genputx.py. -/
import Derived.Test.YtidjocikbmkjbaaGreatSystem
namespace Go.Proofs.YtidjocikbmkjbaaGreat
open Go.RowKit

/-- A number put into an ascending list. -/
def PutP (xs : List Int) (y : Int) (L : List Int) : Prop := ∃ k, k ≤ xs.length ∧ (∀ i, i < k → ∀ z, xs[i]? = some z → z < y) ∧ ((xs[k]? = some y ∧ L = xs) ∨ ((∀ z, xs[k]? = some z → y < z) ∧ L = xs.take k ++ y :: xs.drop k))
def PutX (lo n : Nat) (xs : List Int) (y : Int) (w : World) (e : Ending) (w' : World) : Prop := ∃ A m c L, e = .returned (.slice A m c) ∧ w'.ownsRow lo 3 1 (.slice A m c) m (ints L) ∧ m ≤ n + 1 ∧ PutP xs y L ∧ Below w.heap.size w w'
/-- As PutX, and where the answer lies: it is the same slice, or a new row. -/
def PutY (lo b n c : Nat) (xs : List Int) (y : Int) (w : World) (e : Ending) (w' : World) : Prop := ∃ A m c' L, e = .returned (.slice A m c') ∧ w'.ownsRow lo 3 1 (.slice A m c') m (ints L) ∧ m ≤ n + 1 ∧ PutP xs y L ∧ Below w.heap.size w w' ∧ ((A = some ⟨b, 0, none⟩ ∧ m = n ∧ c' = c ∧ L = xs) ∨ w'.ownsRow w.heap.size 3 1 (.slice A m c') m (ints L))
theorem rd_oneX {w : World} {g : Nat} {u : Int} (h : w.cell? ⟨g, 0, none⟩ = some (.int .i64 u)) (hu : -9223372036854775808 ≤ u ∧ u ≤ 9223372036854775807) : RdL RI w (some ⟨g, 0, none⟩) 1 [u] := ⟨rfl, by unfold maxLen; omega, fun k x hk => by
  rcases k with _ | k
  · simp only [List.getElem?_cons_zero, Option.some.injEq] at hk
    subst hk
    exact ⟨g, 0, _, rfl, h, rfl, hu⟩
  · simp at hk⟩
set_option linter.unusedVariables false in
set_option maxRecDepth 20000 in
set_option maxHeartbeats 8000000 in
theorem l1PutY_any (lo b n c : Nat) (xs : List Int) (y : Int) (w : World) (h : w.ownsRow lo 3 1 (.slice (some ⟨b, 0, none⟩) n c) n (ints xs)) (hlo : lo ≤ w.heap.size) (hn : n ≤ 1000) (hx : ∀ z ∈ xs, -2000 ≤ z ∧ z ≤ 2000) (hy : -2000 ≤ y ∧ y ≤ 2000) :
    Calls Tryz.prog 53 #[.slice (some ⟨b, 0, none⟩) n c, .int .i64 y] w (PutY lo b n c xs y w) := by
  have hnc := sort_cap h
  have hrd := rd_of_own (R := RI) h (RI_ints fun z hz => by have := hx z hz; omega)
  have HX := Lib.hid hx
  have HOWN := Lib.hid h
  have HRD := Lib.hid hrd
  clear hx h hrd
  go_enter Tryz.func53, Tryz.ntmps53
  go_wp2_with fail
  go_loopw [5] (fun i wr => ∃ k : Nat, k ≤ n ∧ i = .int .i64 k ∧ Hid (∀ i, i < k → ∀ z, xs[i]? = some z → z < y) ∧ Hid (w = wr)) (fun i _ => n - (intOf i).toNat)
  case atStart =>
    have H0 : Hid (∀ i, i < 0 → ∀ z, xs[i]? = some z → z < y) := fun i hi => absurd hi (by omega)
    first
      | exact ⟨0, Nat.zero_le _, rfl, H0, rfl⟩
      | exact ⟨0, Nat.zero_le _, rfl, H0, trivial⟩
      | exact ⟨0, Nat.zero_le _, H0, trivial⟩
      | exact ⟨0, Nat.zero_le _, H0⟩
  case round =>
    obtain ⟨k, hk, rfl, HLT, HWR⟩ := hrel
    have hwr := HWR.out
    clear HWR
    subst hwr
    by_cases hlt : k < n
    · have hk0 : (0 : Int) ≤ (k : Int) := by omega
      have hk1 : (k : Int) < (n : Int) := by omega
      obtain ⟨v, z, hcz, ⟨rfl, -, -⟩, -, hxz⟩ := HRD.out.at' hlt
      rw [Nat.zero_add] at hcz
      have HXZ := Lib.hid hxz
      clear hxz
      by_cases hzy : z < y
      · go_wp2_with fail
        go_roundw
        case rel =>
          have H0 : Hid (∀ i, i < k + 1 → ∀ z, xs[i]? = some z → z < y) := fun i hi z' hz' => by
            by_cases e : i = k
            · subst e
              rw [HXZ.out] at hz'
              injection hz' with hz'
              omega
            · exact HLT.out i (by omega) z' hz'
          exact ⟨k + 1, by omega, by go_num, H0, (by first | exact trivial | exact rfl)⟩
        case measure => simp [intOf]; omega
      · by_cases hze : z = y
        · have hz1 : (z == y) = true := by simpa using hze
          subst hze
          go_wp2_with fail
          go_ret
          exact ⟨_, n, c, xs, rfl, HOWN.out, by omega, ⟨k, by rw [HRD.out.1]; omega, HLT.out, .inl ⟨HXZ.out, rfl⟩⟩, Below.refl _ _, .inl ⟨rfl, rfl, rfl, rfl⟩⟩
        · have hz1 : (z == y) = false := by simpa using hze
          have HGT : Hid (∀ z', xs[k]? = some z' → y < z') := fun z' hz' => by
            rw [HXZ.out] at hz'
            injection hz' with hz'
            omega
          have hkc : (k : Int) ≤ (c : Int) := by omega
          have hk3 : (k : Int) ≤ (n : Int) := by omega
          have H1 := HRD
          obtain ⟨ad, HIF, H2⟩ : ∃ ad, Hid ((if c = k then some (⟨b, 0, none⟩ : Addr) else some ⟨b, k, none⟩) = ad) ∧ Hid (RdL RI w ad (n - k) (xs.drop k)) := by
            by_cases hq : c = k
            · refine ⟨_, if_pos hq, ?_⟩
              have e0 : n - k = 0 := by omega
              have e1 : xs.drop k = [] := List.drop_eq_nil_of_le (by rw [(HRD.out).1]; omega)
              show RdL RI w _ _ _
              rw [e0, e1]
              exact ⟨rfl, Nat.zero_le _, fun j x hj => by simp at hj⟩
            · exact ⟨_, if_neg hq, by show RdL RI _ _ _ _; simpa using (HRD.out).drop k⟩
          go_wp2_with fail
          go_region_law (first
            | (refine step_appAny (R := RI) _ rfl (.tmp 33) (.tmp 36) 25 3 rfl (.int .i64 0) 8 Tryz.underlying25 info_int rfl (by decide) w.heap.size 0 0 (some ⟨w.heap.size, 0, none⟩) [] (by rfl) (by first | exact lit0 _ (by simp) | exact (lit0 _ (by simp)).alloc _) (some ⟨b, 0, none⟩) k c (xs.take k) (fun y => .int .i64 y) (fun _ => rfl) (by rfl) ((H1.out.take (k := k) (by omega)).next stab_RI (by first | exact (below_drewN (Below.refl _ _) _).alloc (by simp) _ | exact ((below_drewN (Below.refl _ _) _).alloc (by simp) _).alloc (by first | (simp; done) | (simp; omega)) _)) (fun _ _ _ hr => hr.1) (by omega) (by first | (simp; done) | (simp; omega)) ?_; intro A2 c2 w2 hown2 hg2 hb2; simp only [Nat.zero_add, List.nil_append] at hown2)
            | (refine step_appAny (R := RI) _ rfl (.tmp 33) (.tmp 36) 25 3 rfl (.int .i64 0) 8 Tryz.underlying25 info_int rfl (by decide) w.heap.size 0 0 (some ⟨w.heap.size + 1, 0, none⟩) [] (by rfl) (lit1 _ (by simp)) (some ⟨b, 0, none⟩) k c (xs.take k) (fun y => .int .i64 y) (fun _ => rfl) (by rfl) ((H1.out.take (k := k) (by omega)).next stab_RI (by first | exact (below_drewN (Below.refl _ _) _).alloc (by simp) _ | exact ((below_drewN (Below.refl _ _) _).alloc (by simp) _).alloc (by first | (simp; done) | (simp; omega)) _)) (fun _ _ _ hr => hr.1) (by omega) (by first | (simp; done) | (simp; omega)) ?_; intro A2 c2 w2 hown2 hg2 hb2; simp only [Nat.zero_add, List.nil_append] at hown2)
            | (refine step_appAny (R := RI) _ rfl (.tmp 37) (.tmp 39) 25 3 rfl (.int .i64 0) 8 Tryz.underlying25 info_int rfl (by decide) w.heap.size k c2 A2 (ints (xs.take k)) (by rfl) (by exact hown2.alloc _) (some ⟨w2.heap.size, 0, none⟩) 1 1 [y] (fun y => .int .i64 y) (fun _ => rfl) (by rfl) (rd_oneX (cell_new _ rfl) (by omega)) (fun _ _ _ hr => hr.1) (by omega) (by have h1 := hb2.size; first | (simp at h1; omega) | (simp at h1 ⊢; omega) | (simp; omega) | omega) ?_; intro A3 c3 w3 hown3 hg3 hb3; have F3 : Below w.heap.size w w3 := (by refine Below.trans ?_ hb3; first | (refine Below.trans ?_ hb2; first | exact (below_drewN (Below.refl _ _) _).alloc (by simp) _ | exact ((below_drewN (Below.refl _ _) _).alloc (by simp) _).alloc (by first | (simp; done) | (simp; omega)) _) | (refine Below.alloc ?_ (by have h1 := hb2.size; first | (simp at h1; omega) | omega) _; refine Below.trans ?_ hb2; first | exact (below_drewN (Below.refl _ _) _).alloc (by simp) _ | exact ((below_drewN (Below.refl _ _) _).alloc (by simp) _).alloc (by first | (simp; done) | (simp; omega)) _)))
            | (refine step_appAny (R := RI) _ rfl (.tmp 37) (.tmp 39) 25 3 rfl (.int .i64 0) 8 Tryz.underlying25 info_int rfl (by decide) w.heap.size k c2 A2 (ints (xs.take k)) (by rfl) (by exact hown2) (some ⟨w.heap.size + 1, 0, none⟩) 1 1 [y] (fun y => .int .i64 y) (fun _ => rfl) (by rfl) (rd_oneX (hg2.cell (v := .int .i64 y) (cell_new _ (by simp)) (by simp [Value.ownBlock])) (by omega)) (fun _ _ _ hr => hr.1) (by omega) (by have h1 := hb2.size; first | (simp at h1; omega) | (simp at h1 ⊢; omega) | (simp; omega) | omega) ?_; intro A3 c3 w3 hown3 hg3 hb3; have F3 : Below w.heap.size w w3 := (by refine Below.trans ?_ hb3; first | (refine Below.trans ?_ hb2; first | exact (below_drewN (Below.refl _ _) _).alloc (by simp) _ | exact ((below_drewN (Below.refl _ _) _).alloc (by simp) _).alloc (by first | (simp; done) | (simp; omega)) _) | (refine Below.alloc ?_ (by have h1 := hb2.size; first | (simp at h1; omega) | omega) _; refine Below.trans ?_ hb2; first | exact (below_drewN (Below.refl _ _) _).alloc (by simp) _ | exact ((below_drewN (Below.refl _ _) _).alloc (by simp) _).alloc (by first | (simp; done) | (simp; omega)) _)))
            | (refine step_appAny (R := RI) _ rfl (.tmp 37) (.tmp 39) 25 3 rfl (.int .i64 0) 8 Tryz.underlying25 info_int rfl (by decide) w.heap.size k c2 A2 (ints (xs.take k)) (by rfl) (by exact hown2) (some ⟨w.heap.size, 0, none⟩) 1 1 [y] (fun y => .int .i64 y) (fun _ => rfl) (by rfl) (rd_oneX (hg2.cell (v := .int .i64 y) (cell_new2 _ _ (by simp)) (by simp [Value.ownBlock])) (by omega)) (fun _ _ _ hr => hr.1) (by omega) (by have h1 := hb2.size; first | (simp at h1; omega) | (simp at h1 ⊢; omega) | (simp; omega) | omega) ?_; intro A3 c3 w3 hown3 hg3 hb3; have F3 : Below w.heap.size w w3 := (by refine Below.trans ?_ hb3; first | (refine Below.trans ?_ hb2; first | exact (below_drewN (Below.refl _ _) _).alloc (by simp) _ | exact ((below_drewN (Below.refl _ _) _).alloc (by simp) _).alloc (by first | (simp; done) | (simp; omega)) _) | (refine Below.alloc ?_ (by have h1 := hb2.size; first | (simp at h1; omega) | omega) _; refine Below.trans ?_ hb2; first | exact (below_drewN (Below.refl _ _) _).alloc (by simp) _ | exact ((below_drewN (Below.refl _ _) _).alloc (by simp) _).alloc (by first | (simp; done) | (simp; omega)) _)))
            | (refine step_appAny (R := RI) _ rfl (.tmp 40) (.tmp 43) 25 3 rfl (.int .i64 0) 8 Tryz.underlying25 info_int rfl (by decide) w.heap.size (k + 1) c3 A3 (ints (xs.take k) ++ [.int .i64 y]) (by rfl) (by exact hown3) ad (n - k) (c - k) (xs.drop k) (fun y => .int .i64 y) (fun _ => rfl) (by first | rfl | (show Value.slice (if c = k then _ else _) _ _ = _; rw [HIF.out]; done) | (show Value.slice (if c = k then _ else _) _ _ = _; rw [HIF.out]; simp)) (H2.out.next stab_RI F3) (fun _ _ _ hr => hr.1) (by omega) (by exact F3.size) ?_; intro A4 c4 w4 hown4 hg4 hb4))
          all_goals
            have e1 : k + 1 + (n - k) = n + 1 := by omega
            rw [e1] at hown4
            have eL : ints (xs.take k) ++ [.int .i64 y] ++ (xs.drop k).map (fun y => .int .i64 y) = ints (xs.take k ++ y :: xs.drop k) := by simp [ints]
            rw [eL] at hown4
            have HO4 := Lib.hid hown4
            have HF4 := Lib.hid (F3.trans hb4)
            have HE1 := Lib.hid e1
            clear hown4 eL e1
            go_wp2_with fail
            all_goals
              go_ret
              exact ⟨A4, n + 1, c4, _, by first | rfl | (rw [← HE1.out]; rfl), own_mono HO4.out hlo, Nat.le_refl _, ⟨k, by rw [HRD.out.1]; omega, HLT.out, .inr ⟨HGT.out, rfl⟩⟩, HF4.out, .inr HO4.out⟩
    · obtain rfl : n = k := by omega
      have HGT : Hid (∀ z', xs[n]? = some z' → y < z') := fun z' hz' => by
        rw [List.getElem?_eq_none (by rw [HRD.out.1]; omega)] at hz'
        cases hz'
      have hk1 : ¬ (n : Int) < (n : Int) := by omega
      have hk0 : (0 : Int) ≤ (n : Int) := by omega
      have hkc : (n : Int) ≤ (c : Int) := by omega
      have hk3 : (n : Int) ≤ (n : Int) := by omega
      have H1 := HRD
      obtain ⟨ad, HIF, H2⟩ : ∃ ad, Hid ((if c = n then some (⟨b, 0, none⟩ : Addr) else some ⟨b, n, none⟩) = ad) ∧ Hid (RdL RI w ad (n - n) (xs.drop n)) := by
        by_cases hq : c = n
        · refine ⟨_, if_pos hq, ?_⟩
          have e0 : n - n = 0 := by omega
          have e1 : xs.drop n = [] := List.drop_eq_nil_of_le (by rw [(HRD.out).1]; omega)
          show RdL RI w _ _ _
          rw [e0, e1]
          exact ⟨rfl, Nat.zero_le _, fun j x hj => by simp at hj⟩
        · exact ⟨_, if_neg hq, by show RdL RI _ _ _ _; simpa using (HRD.out).drop n⟩
      go_wp2_with fail
      go_region_law (first
        | (refine step_appAny (R := RI) _ rfl (.tmp 33) (.tmp 36) 25 3 rfl (.int .i64 0) 8 Tryz.underlying25 info_int rfl (by decide) w.heap.size 0 0 (some ⟨w.heap.size, 0, none⟩) [] (by rfl) (by first | exact lit0 _ (by simp) | exact (lit0 _ (by simp)).alloc _) (some ⟨b, 0, none⟩) n c (xs.take n) (fun y => .int .i64 y) (fun _ => rfl) (by rfl) ((H1.out.take (k := n) (by omega)).next stab_RI (by first | exact (below_drewN (Below.refl _ _) _).alloc (by simp) _ | exact ((below_drewN (Below.refl _ _) _).alloc (by simp) _).alloc (by first | (simp; done) | (simp; omega)) _)) (fun _ _ _ hr => hr.1) (by omega) (by first | (simp; done) | (simp; omega)) ?_; intro A2 c2 w2 hown2 hg2 hb2; simp only [Nat.zero_add, List.nil_append] at hown2)
        | (refine step_appAny (R := RI) _ rfl (.tmp 33) (.tmp 36) 25 3 rfl (.int .i64 0) 8 Tryz.underlying25 info_int rfl (by decide) w.heap.size 0 0 (some ⟨w.heap.size + 1, 0, none⟩) [] (by rfl) (lit1 _ (by simp)) (some ⟨b, 0, none⟩) n c (xs.take n) (fun y => .int .i64 y) (fun _ => rfl) (by rfl) ((H1.out.take (k := n) (by omega)).next stab_RI (by first | exact (below_drewN (Below.refl _ _) _).alloc (by simp) _ | exact ((below_drewN (Below.refl _ _) _).alloc (by simp) _).alloc (by first | (simp; done) | (simp; omega)) _)) (fun _ _ _ hr => hr.1) (by omega) (by first | (simp; done) | (simp; omega)) ?_; intro A2 c2 w2 hown2 hg2 hb2; simp only [Nat.zero_add, List.nil_append] at hown2)
        | (refine step_appAny (R := RI) _ rfl (.tmp 37) (.tmp 39) 25 3 rfl (.int .i64 0) 8 Tryz.underlying25 info_int rfl (by decide) w.heap.size n c2 A2 (ints (xs.take n)) (by rfl) (by exact hown2.alloc _) (some ⟨w2.heap.size, 0, none⟩) 1 1 [y] (fun y => .int .i64 y) (fun _ => rfl) (by rfl) (rd_oneX (cell_new _ rfl) (by omega)) (fun _ _ _ hr => hr.1) (by omega) (by have h1 := hb2.size; first | (simp at h1; omega) | (simp at h1 ⊢; omega) | (simp; omega) | omega) ?_; intro A3 c3 w3 hown3 hg3 hb3; have F3 : Below w.heap.size w w3 := (by refine Below.trans ?_ hb3; first | (refine Below.trans ?_ hb2; first | exact (below_drewN (Below.refl _ _) _).alloc (by simp) _ | exact ((below_drewN (Below.refl _ _) _).alloc (by simp) _).alloc (by first | (simp; done) | (simp; omega)) _) | (refine Below.alloc ?_ (by have h1 := hb2.size; first | (simp at h1; omega) | omega) _; refine Below.trans ?_ hb2; first | exact (below_drewN (Below.refl _ _) _).alloc (by simp) _ | exact ((below_drewN (Below.refl _ _) _).alloc (by simp) _).alloc (by first | (simp; done) | (simp; omega)) _)))
        | (refine step_appAny (R := RI) _ rfl (.tmp 37) (.tmp 39) 25 3 rfl (.int .i64 0) 8 Tryz.underlying25 info_int rfl (by decide) w.heap.size n c2 A2 (ints (xs.take n)) (by rfl) (by exact hown2) (some ⟨w.heap.size + 1, 0, none⟩) 1 1 [y] (fun y => .int .i64 y) (fun _ => rfl) (by rfl) (rd_oneX (hg2.cell (v := .int .i64 y) (cell_new _ (by simp)) (by simp [Value.ownBlock])) (by omega)) (fun _ _ _ hr => hr.1) (by omega) (by have h1 := hb2.size; first | (simp at h1; omega) | (simp at h1 ⊢; omega) | (simp; omega) | omega) ?_; intro A3 c3 w3 hown3 hg3 hb3; have F3 : Below w.heap.size w w3 := (by refine Below.trans ?_ hb3; first | (refine Below.trans ?_ hb2; first | exact (below_drewN (Below.refl _ _) _).alloc (by simp) _ | exact ((below_drewN (Below.refl _ _) _).alloc (by simp) _).alloc (by first | (simp; done) | (simp; omega)) _) | (refine Below.alloc ?_ (by have h1 := hb2.size; first | (simp at h1; omega) | omega) _; refine Below.trans ?_ hb2; first | exact (below_drewN (Below.refl _ _) _).alloc (by simp) _ | exact ((below_drewN (Below.refl _ _) _).alloc (by simp) _).alloc (by first | (simp; done) | (simp; omega)) _)))
        | (refine step_appAny (R := RI) _ rfl (.tmp 37) (.tmp 39) 25 3 rfl (.int .i64 0) 8 Tryz.underlying25 info_int rfl (by decide) w.heap.size n c2 A2 (ints (xs.take n)) (by rfl) (by exact hown2) (some ⟨w.heap.size, 0, none⟩) 1 1 [y] (fun y => .int .i64 y) (fun _ => rfl) (by rfl) (rd_oneX (hg2.cell (v := .int .i64 y) (cell_new2 _ _ (by simp)) (by simp [Value.ownBlock])) (by omega)) (fun _ _ _ hr => hr.1) (by omega) (by have h1 := hb2.size; first | (simp at h1; omega) | (simp at h1 ⊢; omega) | (simp; omega) | omega) ?_; intro A3 c3 w3 hown3 hg3 hb3; have F3 : Below w.heap.size w w3 := (by refine Below.trans ?_ hb3; first | (refine Below.trans ?_ hb2; first | exact (below_drewN (Below.refl _ _) _).alloc (by simp) _ | exact ((below_drewN (Below.refl _ _) _).alloc (by simp) _).alloc (by first | (simp; done) | (simp; omega)) _) | (refine Below.alloc ?_ (by have h1 := hb2.size; first | (simp at h1; omega) | omega) _; refine Below.trans ?_ hb2; first | exact (below_drewN (Below.refl _ _) _).alloc (by simp) _ | exact ((below_drewN (Below.refl _ _) _).alloc (by simp) _).alloc (by first | (simp; done) | (simp; omega)) _)))
        | (refine step_appAny (R := RI) _ rfl (.tmp 40) (.tmp 43) 25 3 rfl (.int .i64 0) 8 Tryz.underlying25 info_int rfl (by decide) w.heap.size (n + 1) c3 A3 (ints (xs.take n) ++ [.int .i64 y]) (by rfl) (by exact hown3) ad (n - n) (c - n) (xs.drop n) (fun y => .int .i64 y) (fun _ => rfl) (by first | rfl | (show Value.slice (if c = n then _ else _) _ _ = _; rw [HIF.out]; done) | (show Value.slice (if c = n then _ else _) _ _ = _; rw [HIF.out]; simp)) (H2.out.next stab_RI F3) (fun _ _ _ hr => hr.1) (by omega) (by exact F3.size) ?_; intro A4 c4 w4 hown4 hg4 hb4))
      all_goals
        have e1 : n + 1 + (n - n) = n + 1 := by omega
        rw [e1] at hown4
        have eL : ints (xs.take n) ++ [.int .i64 y] ++ (xs.drop n).map (fun y => .int .i64 y) = ints (xs.take n ++ y :: xs.drop n) := by simp [ints]
        rw [eL] at hown4
        have HO4 := Lib.hid hown4
        have HF4 := Lib.hid (F3.trans hb4)
        have HE1 := Lib.hid e1
        clear hown4 eL e1
        go_wp2_with fail
        all_goals
          go_ret
          exact ⟨A4, n + 1, c4, _, by first | rfl | (rw [← HE1.out]; rfl), own_mono HO4.out hlo, Nat.le_refl _, ⟨n, by rw [HRD.out.1]; omega, HLT.out, .inr ⟨HGT.out, rfl⟩⟩, HF4.out, .inr HO4.out⟩
theorem l1PutX_any (lo b n c : Nat) (xs : List Int) (y : Int) (w : World) (h : w.ownsRow lo 3 1 (.slice (some ⟨b, 0, none⟩) n c) n (ints xs)) (hlo : lo ≤ w.heap.size) (hn : n ≤ 1000) (hx : ∀ z ∈ xs, -2000 ≤ z ∧ z ≤ 2000) (hy : -2000 ≤ y ∧ y ≤ 2000) :
    Calls Tryz.prog 53 #[.slice (some ⟨b, 0, none⟩) n c, .int .i64 y] w (PutX lo n xs y w) :=
  (l1PutY_any lo b n c xs y w h hlo hn hx hy).mono fun _ _ ⟨A, m, c', L, h1, h2, h3, h4, h5, _⟩ => ⟨A, m, c', L, h1, h2, h3, h4, h5⟩
end Go.Proofs.YtidjocikbmkjbaaGreat
