
/- Plain laws: counting the canonical forms of a family of algebras with one operation; the keys of codes. No program in this text but for the map's size. -/
import Derived.Test.YtppnmpeicmlneaaGrp
import Derived.Test.YtppnmpeicmlneaaMapS
import Derived.Test.YtppnmpeicmlneaaArgs
namespace Go.Proofs.Ytppnmpeicmlneaa
open Go.RowKit

/-! ## Keys -/
def keyB : List Int → List UInt8
  | [] => []
  | x :: l => 0 :: UInt8.ofNat x.toNat :: keyB l
def keyS (xs : List Int) : ByteArray := ⟨(keyB xs).toArray⟩
theorem keyB_len : ∀ xs, (keyB xs).length = 2 * xs.length
  | [] => rfl
  | x :: l => by rw [keyB, List.length_cons, List.length_cons, keyB_len l, List.length_cons]; omega
theorem keyB_snoc (x : Int) : ∀ xs, keyB (xs ++ [x]) = keyB xs ++ [0, UInt8.ofNat x.toNat]
  | [] => rfl
  | y :: l => by rw [List.cons_append, keyB, keyB, keyB_snoc x l]; rfl
theorem keyB_inj : ∀ {xs ys : List Int}, (∀ v ∈ xs, 0 ≤ v ∧ v < 256) → (∀ v ∈ ys, 0 ≤ v ∧ v < 256) → keyB xs = keyB ys → xs = ys
  | [], [], _, _, _ => rfl
  | [], _ :: _, _, _, h => by simp [keyB] at h
  | _ :: _, [], _, _, h => by simp [keyB] at h
  | x :: l, y :: m, hx, hy, h => by
    rw [keyB, keyB] at h
    injection h with _ h
    injection h with h1 h2
    have a := hx x (by simp)
    have b := hy y (by simp)
    have e : x.toNat = y.toNat := by
      have := congrArg UInt8.toNat h1
      rw [UInt8.toNat_ofNat', UInt8.toNat_ofNat'] at this
      omega
    rw [keyB_inj (fun v hv => hx v (by simp [hv])) (fun v hv => hy v (by simp [hv])) h2, show x = y by omega]
theorem keyS_inj {xs ys : List Int} (hx : ∀ v ∈ xs, 0 ≤ v ∧ v < 256) (hy : ∀ v ∈ ys, 0 ≤ v ∧ v < 256) (h : keyS xs = keyS ys) : xs = ys := by
  injection h with h
  have := congrArg Array.toList h
  exact keyB_inj hx hy this
/-- The map's size: as many as there are different keys. -/
theorem size_once (ks : List ByteArray) : Go.Maps.size (setS ks) = (once id ks).length := by
  have key : ∀ k, k ≤ ks.length → Go.Maps.size (setS (ks.take k)) = (once id (ks.take k)).length := by
    intro k
    induction k with
    | zero => intro _; rfl
    | succ k ih =>
      intro hk
      rw [List.take_succ_eq_append_getElem (by omega), size_snoc, once_snoc]
      have e : hasS ks[k] (ks.take k) = (once id (ks.take k)).any fun c => eqC c (id ks[k]) := by
        rw [Bool.eq_iff_iff, hasS_iff, any_eqC, (once_iff id (ks.take k)).2]
        exact ⟨fun h => ⟨_, h, rfl⟩, fun ⟨p, h, e⟩ => by rw [← show p = ks[k] from e]; exact h⟩
      rw [e]
      split
      · exact ih (by omega)
      · rw [ih (by omega), List.length_append]; rfl
  have := key ks.length (Nat.le_refl _)
  rwa [List.take_length] at this

/-! ## Families -/
def famA (n k : Nat) (tab : Nat → List Int) (i : Nat) : AlgebraM := ((n : Int), [((k : Int), tab i)])
structure FamOk (n k many : Nat) (tab : Nat → List Int) : Prop where
  n1 : 1 ≤ n
  n5 : n ≤ 5
  k3 : k ≤ 3
  len : ∀ i, i < many → (tab i).length = n ^ k
  bd : ∀ i, i < many → ∀ v ∈ tab i, 0 ≤ v ∧ v ≤ (n : Int) - 1
  inj : ∀ i j, i < many → j < many → tab i = tab j → i = j
  can : ∀ i, i < many → ∃ j, j < many ∧ canA (famA n k tab i) = famA n k tab j
variable {n k many : Nat} {tab : Nat → List Int}
theorem FamOk.small (F : FamOk n k many tab) {i : Nat} (hi : i < many) : SmallP (famA n k tab i) := by
  have h1 := F.n1
  have h2 := F.n5
  have h3 := F.k3
  refine ⟨by show (1 : Int) ≤ (n : Int); omega, by show (n : Int) ≤ 5; omega, by show 1 ≤ 4; omega, ?_⟩
  intro o ho
  have : o = ((k : Int), tab i) := by simpa [famA] using ho
  subst this
  refine ⟨by show (0 : Int) ≤ (k : Int); omega, by show (k : Int) ≤ 3; omega, ?_, ?_⟩
  · show (tab i).length = (n : Int).toNat ^ (k : Int).toNat
    rw [Int.toNat_natCast, Int.toNat_natCast]
    exact F.len i hi
  · intro v hv
    show 0 ≤ v ∧ v ≤ (((n : Int).toNat : Nat) : Int) - 1
    rw [Int.toNat_natCast]
    exact F.bd i hi v hv
def famK (n k : Nat) (tab : Nat → List Int) (i : Nat) : ByteArray := keyS (codeL (canA (famA n k tab i)).2)
theorem code_fam (n k : Nat) (tab : Nat → List Int) (i : Nat) : codeL (famA n k tab i).2 = tab i := by simp [famA, codeL]
noncomputable def famC (n k many : Nat) (tab : Nat → List Int) : Nat := ((List.range many).filter fun i => eqC (canA (famA n k tab i)) (famA n k tab i)).length
theorem fam_count (F : FamOk n k many tab) : (once id ((List.range many).map (famK n k tab))).length = famC n k many tab := by
  have hb : ∀ x ∈ (List.range many).map (famA n k tab), ∃ i, i < many ∧ x = famA n k tab i := by
    intro x hx
    obtain ⟨i, hi, rfl⟩ := List.mem_map.1 hx
    exact ⟨i, List.mem_range.1 hi, rfl⟩
  have h256 : ∀ i, i < many → ∀ v ∈ tab i, 0 ≤ v ∧ v < 256 := fun i hi v hv => by
    have := F.bd i hi v hv
    have := F.n5
    omega
  have e := forms_len (l := (List.range many).map (famA n k tab)) (β := ByteArray)
    (nodup_map List.nodup_range fun i hi j hj e => F.inj i j (List.mem_range.1 hi) (List.mem_range.1 hj) (by rw [← code_fam n k tab i, ← code_fam n k tab j, e]))
    (fun x hx => by obtain ⟨i, hi, rfl⟩ := hb x hx; exact F.small hi)
    (fun x hx => by
      obtain ⟨i, hi, rfl⟩ := hb x hx
      obtain ⟨j, hj, e⟩ := F.can i hi
      exact List.mem_map.2 ⟨j, List.mem_range.2 hj, e.symm⟩)
    (fun x => keyS (codeL x.2))
    (fun x hx y hy e => by
      obtain ⟨i, hi, rfl⟩ := hb x hx
      obtain ⟨j, hj, rfl⟩ := hb y hy
      rw [code_fam, code_fam] at e
      rw [F.inj i j hi hj (keyS_inj (h256 i hi) (h256 j hj) e)])
    (cs := once id ((List.range many).map (famK n k tab)))
    (once_iff _ _).1
    (fun c => by
      rw [(once_iff _ _).2]
      constructor
      · rintro ⟨p, hp, rfl⟩
        obtain ⟨i, hi, rfl⟩ := List.mem_map.1 hp
        exact ⟨_, List.mem_map.2 ⟨i, hi, rfl⟩, rfl⟩
      · rintro ⟨x, hx, rfl⟩
        obtain ⟨i, hi, rfl⟩ := List.mem_map.1 hx
        exact ⟨_, List.mem_map.2 ⟨i, hi, rfl⟩, rfl⟩)
  rw [e, List.filter_map, List.length_map]
  rfl
/-- .. counted one by one. -/
noncomputable def famT (n k : Nat) (tab : Nat → List Int) (i : Nat) : Nat := famC n k i tab
theorem famT_zero (n k : Nat) (tab : Nat → List Int) : famT n k tab 0 = 0 := rfl
theorem famT_succ (n k : Nat) (tab : Nat → List Int) (i : Nat) : famT n k tab (i + 1) = if eqC (canA (famA n k tab i)) (famA n k tab i) then famT n k tab i + 1 else famT n k tab i := by
  unfold famT famC
  rw [List.range_succ, List.filter_append, List.length_append]
  by_cases h : eqC (canA (famA n k tab i)) (famA n k tab i) = true
  · rw [if_pos h, List.filter_cons, if_pos h]; rfl
  · rw [if_neg h, List.filter_cons, if_neg h]; rfl
theorem famT_le (n k : Nat) (tab : Nat → List Int) (i : Nat) : famT n k tab i ≤ i := by
  unfold famT famC
  have := List.length_filter_le (fun i => eqC (canA (famA n k tab i)) (famA n k tab i)) (List.range i)
  rwa [List.length_range] at this

/-! ## Unary operations -/
def uniT (n : Nat) (i : Nat) : List Int := nats (digs n n i)
theorem nats_inj {l m : List Nat} (h : nats l = nats m) : l = m := by
  unfold nats at h
  have := congrArg (List.map Int.toNat) h
  rw [List.map_map, List.map_map] at this
  have e : ∀ q : List Nat, q.map (Int.toNat ∘ fun d : Nat => (d : Int)) = q := fun q => by
    conv => rhs; rw [← List.map_id q]
    exact List.map_congr_left fun v _ => Int.toNat_natCast v
  rwa [e, e] at this
theorem uni_ok {n : Nat} (h1 : 1 ≤ n) (h5 : n ≤ 5) : FamOk n 1 (n ^ n) (uniT n) := by
  have hbd : ∀ i, ∀ v ∈ uniT n i, 0 ≤ v ∧ v ≤ (n : Int) - 1 := fun i v hv => by
    obtain ⟨d, hd, rfl⟩ := List.mem_map.1 hv
    have := digs_lt (by omega) hd
    omega
  have hlen : ∀ i, (uniT n i).length = n := fun i => by unfold uniT; rw [nats_len, digs_len]
  have hS : ∀ i, SmallP (famA n 1 (uniT n) i) := fun i => by
    refine ⟨by show (1 : Int) ≤ (n : Int); omega, by show (n : Int) ≤ 5; omega, by show 1 ≤ 4; omega, ?_⟩
    intro o ho
    have : o = ((1 : Int), uniT n i) := by simpa [famA] using ho
    subst this
    refine ⟨(by decide : (0 : Int) ≤ 1), (by decide : (1 : Int) ≤ 3), ?_, ?_⟩
    · show (uniT n i).length = (n : Int).toNat ^ 1
      rw [Int.toNat_natCast, Nat.pow_one]
      exact hlen i
    · intro v hv
      show 0 ≤ v ∧ v ≤ (((n : Int).toNat : Nat) : Int) - 1
      rw [Int.toNat_natCast]
      exact hbd i v hv
  refine ⟨h1, h5, by omega, fun i _ => by rw [Nat.pow_one]; exact hlen i, fun i _ => hbd i, fun i j hi hj e => ?_, fun i _ => ?_⟩
  · have := nats_inj e
    rw [← idx_digs (by omega) hi, ← idx_digs (by omega) hj, this]
  · have hc : SmallP (canA (famA n 1 (uniT n) i)) := ren_small (canN_ok (x := famA n 1 (uniT n) i)).2 (hS i)
    have hop : OpP n (renOp n (canN (famA n 1 (uniT n) i)) ((1 : Int), uniT n i)) := by
      have := hc.2.2.2 (renOp n (canN (famA n 1 (uniT n) i)) ((1 : Int), uniT n i)) (by
        show _ ∈ [renOp ((n : Int).toNat) _ _]
        rw [Int.toNat_natCast, List.mem_singleton]
        rfl)
      rwa [show (canA (famA n 1 (uniT n) i)).1.toNat = n from Int.toNat_natCast n] at this
    obtain ⟨-, -, hl, hb⟩ := hop
    have hl' : (renOp n (canN (famA n 1 (uniT n) i)) ((1 : Int), uniT n i)).2.length = n := by rw [hl]; exact Nat.pow_one n
    obtain ⟨T, hT⟩ : ∃ T, renOp n (canN (famA n 1 (uniT n) i)) ((1 : Int), uniT n i) = ((1 : Int), T) := ⟨_, rfl⟩
    rw [hT] at hl' hb
    refine ⟨idx n (T.map Int.toNat), ?_, ?_⟩
    · refine idx_lt n _ (by rw [List.length_map]; exact hl') fun d hd => ?_
      obtain ⟨v, hv, rfl⟩ := List.mem_map.1 hd
      have := hb v hv
      omega
    · have e : uniT n (idx n (T.map Int.toNat)) = T := by
        unfold uniT
        rw [digs_idx (by omega) n _ (by rw [List.length_map]; exact hl') (fun d hd => by
          obtain ⟨v, hv, rfl⟩ := List.mem_map.1 hd
          have := hb v hv
          omega)]
        unfold nats
        rw [List.map_map]
        calc List.map ((fun d : Nat => (d : Int)) ∘ Int.toNat) T = List.map id T := List.map_congr_left fun v hv => by
              have := hb v hv
              show ((v.toNat : Nat) : Int) = v
              omega
          _ = T := List.map_id T
      unfold famA
      rw [e]
      show ren (famA n 1 (uniT n) i) _ = _
      unfold ren
      show ((n : Int), [renOp ((n : Int).toNat) (canN (famA n 1 (uniT n) i)) ((1 : Int), uniT n i)]) = _
      rw [Int.toNat_natCast, hT]
      rfl
end Go.Proofs.Ytppnmpeicmlneaa
