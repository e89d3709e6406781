/- Parts of the proof: RenP, TxA, NumR, Spl, NumS, TxW, TxV, RenM, Ren, Res, Tt, Sl, System, PutX, HIdentity, HLabStep, Step. -/
import Derived.Test.YtfnmkbpogbekpaaGreatDoorQ1
import Derived.Shelf.Strconv.ErrVarAll
import Derived.Shelf.Strings.Split
import Derived.Deep.RegionHeld3
import Derived.Deep.DeepCutAuto
import Derived.Deep.RegionLaw
import Derived.Laws.OwnMore
import Derived.StillTailTactics
namespace Go.Proofs.YtfnmkbpogbekpaaGreatDoor
open Go.RowKit

theorem allIn_m {a b : Int} : ∀ {l : List Int}, allIn a b l = true ↔ ∀ x ∈ l, a ≤ x ∧ x ≤ b
  | [] => by simp [allIn]
  | y :: l => by
    simp [allIn, inB, allIn_m (l := l)]

/-! ## Digits -/
def digs (n : Nat) : Nat → Nat → List Nat
  | 0, _ => []
  | k + 1, i => digs n k (i / n) ++ [i % n]
def idx (n : Nat) (l : List Nat) : Nat := l.foldl (fun a d => a * n + d) 0
theorem idx_snoc (n : Nat) (l : List Nat) (d : Nat) : idx n (l ++ [d]) = idx n l * n + d := by simp [idx, List.foldl_append]
theorem digs_len (n : Nat) : ∀ k i, (digs n k i).length = k
  | 0, _ => rfl
  | k + 1, i => by rw [digs, List.length_append, digs_len n k]; rfl
theorem digs_lt {n : Nat} (hn : 0 < n) : ∀ {k i d}, d ∈ digs n k i → d < n
  | 0, _, _, h => by cases h
  | k + 1, i, d, h => by
    rw [digs, List.mem_append] at h
    rcases h with h | h
    · exact digs_lt hn h
    · rw [List.mem_singleton] at h
      subst h
      exact Nat.mod_lt _ hn
theorem idx_digs {n : Nat} (hn : 0 < n) : ∀ {k i}, i < n ^ k → idx n (digs n k i) = i
  | 0, i, h => by
    simp at h
    subst h
    rfl
  | k + 1, i, h => by
    rw [digs, idx_snoc, idx_digs hn (k := k) (by rw [Nat.div_lt_iff_lt_mul hn, ← Nat.pow_succ]; exact h)]
    rw [Nat.mul_comm]
    exact Nat.div_add_mod i n
theorem idx_lt {n : Nat} : ∀ (k : Nat) (l : List Nat), l.length = k → (∀ d ∈ l, d < n) → idx n l < n ^ k
  | 0, l, hl, _ => by
    rw [List.length_eq_zero_iff] at hl
    subst hl
    simp [idx]
  | k + 1, l, hl, h => by
    obtain ⟨l', d, rfl⟩ : ∃ l' d, l = l' ++ [d] := by
      rcases List.eq_nil_or_concat l with rfl | ⟨l', d, rfl⟩
      · simp at hl
      · exact ⟨l', d, by simp⟩
    rw [idx_snoc]
    have h1 := idx_lt k l' (by simp at hl; exact hl) fun x hx => h x (by simp [hx])
    have h2 := h d (by simp)
    rw [Nat.pow_succ]
    have := Nat.mul_le_mul_right n (Nat.succ_le_of_lt h1)
    rw [Nat.succ_mul] at this
    omega
theorem digs_idx {n : Nat} (hn : 0 < n) : ∀ (k : Nat) (l : List Nat), l.length = k → (∀ d ∈ l, d < n) → digs n k (idx n l) = l
  | 0, l, hl, _ => by
    rw [List.length_eq_zero_iff] at hl
    subst hl
    rfl
  | k + 1, l, hl, h => by
    obtain ⟨l', d, rfl⟩ : ∃ l' d, l = l' ++ [d] := by
      rcases List.eq_nil_or_concat l with rfl | ⟨l', d, rfl⟩
      · simp at hl
      · exact ⟨l', d, by simp⟩
    have h2 := h d (by simp)
    rw [idx_snoc, digs, Nat.mul_comm, Nat.mul_add_div hn, Nat.div_eq_of_lt h2, Nat.add_zero, Nat.mul_add_mod, Nat.mod_eq_of_lt h2]
    rw [digs_idx hn k l' (by simp at hl; exact hl) fun x hx => h x (by simp [hx])]

/-! ## Names -/
def nmI (s : List Int) (v : Int) : Int := s.getD v.toNat 0
def nmAt (s : List Int) (x : Nat) : Nat := (s.getD x 0).toNat
def PermL (n : Nat) (s : List Int) : Prop := s.length = n ∧ (∀ v ∈ s, 0 ≤ v ∧ v ≤ (n : Int) - 1) ∧ s.Nodup
theorem nmAt_get {s : List Int} {x : Nat} {v : Int} (h : s[x]? = some v) : nmAt s x = v.toNat := by simp [nmAt, List.getD_eq_getElem?_getD, h]
theorem nmI_get {s : List Int} {x : Nat} {v : Int} (h : s[x]? = some v) : nmI s x = v := by simp [nmI, List.getD_eq_getElem?_getD, h]
theorem PermL.at {n : Nat} {s : List Int} (h : PermL n s) {x : Nat} (hx : x < n) : ∃ v : Nat, s[x]? = some (v : Int) ∧ v < n ∧ nmAt s x = v := by
  have hl : x < s.length := by rw [h.1]; exact hx
  have hv := h.2.1 s[x] (List.getElem_mem hl)
  refine ⟨(s[x]).toNat, ?_, by omega, ?_⟩
  · rw [List.getElem?_eq_getElem hl, Int.toNat_of_nonneg hv.1]
  · exact nmAt_get (List.getElem?_eq_getElem hl)
theorem nodup_sub : ∀ {l m : List Int}, l.Nodup → (∀ x ∈ l, x ∈ m) → l.length ≤ m.length
  | [], _, _, _ => Nat.zero_le _
  | a :: l, m, hn, hs => by
    rw [List.nodup_cons] at hn
    have hm := hs a (by simp)
    have ih := nodup_sub (m := m.erase a) hn.2 fun x hx => (List.mem_erase_of_ne (fun e => hn.1 (by rw [← e]; exact hx))).2 (hs x (by simp [hx]))
    rw [List.length_erase_of_mem hm] at ih
    have := List.length_pos_of_mem hm
    rw [List.length_cons]
    omega
theorem PermL.surj {n : Nat} {s : List Int} (h : PermL n s) {d : Nat} (hd : d < n) : ∃ x, x < n ∧ nmAt s x = d := by
  by_cases hm : (d : Int) ∈ s
  · obtain ⟨x, hx⟩ := List.getElem?_of_mem hm
    have := (List.getElem?_eq_some_iff.1 hx).1
    exact ⟨x, by rw [← h.1]; exact this, by rw [nmAt_get hx]; simp⟩
  · exfalso
    have hl : ((d : Int) :: s).length ≤ (upTo n).length := nodup_sub (List.nodup_cons.2 ⟨hm, h.2.2⟩) fun x hx => by
      have hb : 0 ≤ x ∧ x ≤ (n : Int) - 1 := by
        rcases List.mem_cons.1 hx with rfl | hx
        · omega
        · exact h.2.1 x hx
      unfold upTo
      rw [List.mem_map]
      exact ⟨x.toNat, List.mem_range.2 (by omega), by omega⟩
    rw [List.length_cons, upTo_len, h.1] at hl
    omega

/-! ## Renaming one table -/
def toI (n k : Nat) (s : List Int) (i : Nat) : Nat := idx n ((digs n k i).map (nmAt s))
theorem toI_lt {n k : Nat} {s : List Int} (hn : 0 < n) (hs : PermL n s) (i : Nat) : toI n k s i < n ^ k := by
  refine idx_lt k _ (by rw [List.length_map, digs_len]) fun d hd => ?_
  rw [List.mem_map] at hd
  obtain ⟨x, hx, rfl⟩ := hd
  obtain ⟨v, -, hv, e⟩ := hs.at (digs_lt hn hx)
  omega
theorem pre_list {n : Nat} {s : List Int} (hs : PermL n s) : ∀ {l : List Nat}, (∀ d ∈ l, d < n) → ∃ l' : List Nat, l'.length = l.length ∧ (∀ d ∈ l', d < n) ∧ l'.map (nmAt s) = l
  | [], _ => ⟨[], rfl, (fun d hd => by simp at hd), rfl⟩
  | d :: l, h => by
    obtain ⟨x, hx, e⟩ := hs.surj (h d (by simp))
    obtain ⟨l', h1, h2, h3⟩ := pre_list hs (l := l) fun y hy => h y (by simp [hy])
    refine ⟨x :: l', by simp [h1], fun y hy => ?_, by rw [List.map_cons, e, h3]⟩
    rcases List.mem_cons.1 hy with rfl | hy
    · exact hx
    · exact h2 y hy
theorem toI_surj {n k : Nat} {s : List Int} (hn : 0 < n) (hs : PermL n s) {j : Nat} (hj : j < n ^ k) : ∃ i, i < n ^ k ∧ toI n k s i = j := by
  obtain ⟨l', h1, h2, h3⟩ := pre_list hs (l := digs n k j) fun d hd => digs_lt hn hd
  rw [digs_len] at h1
  refine ⟨idx n l', idx_lt k l' h1 h2, ?_⟩
  unfold toI
  rw [digs_idx hn k l' h1 h2, h3, idx_digs hn hj]
def renTo (n k : Nat) (s t T : List Int) : Nat → List Int
  | 0 => T
  | m + 1 => (renTo n k s t T m).set (toI n k s m) (nmI s (t.getD m 0))
theorem renTo_len (n k : Nat) (s t T : List Int) : ∀ m, (renTo n k s t T m).length = T.length
  | 0 => rfl
  | m + 1 => by rw [renTo, List.length_set, renTo_len n k s t T m]
theorem renTo_in {n k : Nat} {s t T : List Int} (hs : PermL n s) (hT : ∀ v ∈ T, 0 ≤ v ∧ v ≤ (n : Int) - 1) (ht : ∀ v ∈ t, 0 ≤ v ∧ v ≤ (n : Int) - 1) : ∀ m, m ≤ t.length → ∀ v ∈ renTo n k s t T m, 0 ≤ v ∧ v ≤ (n : Int) - 1
  | 0, _ => hT
  | m + 1, hm => by
    intro v hv
    rw [renTo] at hv
    rcases List.mem_or_eq_of_mem_set hv with hv | rfl
    · exact renTo_in hs hT ht m (by omega) v hv
    · have h1 : t[m]? = some t[m] := List.getElem?_eq_getElem (by omega)
      have h2 := ht t[m] (List.getElem_mem _)
      rw [List.getD_eq_getElem?_getD, h1]
      obtain ⟨u, hu, hun, -⟩ := hs.at (x := (t[m]).toNat) (by omega)
      have := nmI_get hu
      rw [Int.toNat_of_nonneg h2.1] at this
      show 0 ≤ nmI s t[m] ∧ nmI s t[m] ≤ _
      rw [this]
      omega

/-! ## The identity -/
theorem nmAt_up {n x : Nat} (hx : x < n) : nmAt (upTo n) x = x := by rw [nmAt_get (upTo_get hx)]; simp
theorem toI_up {n k : Nat} (hn : 0 < n) {i : Nat} (hi : i < n ^ k) : toI n k (upTo n) i = i := by
  unfold toI
  have e : (digs n k i).map (nmAt (upTo n)) = digs n k i := by
    conv => rhs; rw [← List.map_id (digs n k i)]
    apply List.map_congr_left
    intro d hd
    rw [nmAt_up (digs_lt hn hd)]
    rfl
  rw [e, idx_digs hn hi]
theorem renTo_up {n k : Nat} {t : List Int} (hn : 0 < n) (hl : t.length = n ^ k) (ht : ∀ v ∈ t, 0 ≤ v ∧ v ≤ (n : Int) - 1) : ∀ m, m ≤ n ^ k → renTo n k (upTo n) t t m = t
  | 0, _ => rfl
  | m + 1, hm => by
    rw [renTo, renTo_up hn hl ht m (by omega), toI_up hn (by omega)]
    have hml : m < t.length := by omega
    have h2 := ht t[m] (List.getElem_mem hml)
    have e : nmI (upTo n) (t.getD m 0) = t[m] := by
      rw [List.getD_eq_getElem?_getD, List.getElem?_eq_getElem hml]
      show nmI (upTo n) t[m] = _
      have := nmI_get (upTo_get (n := n) (k := (t[m]).toNat) (by omega))
      rw [Int.toNat_of_nonneg h2.1] at this
      exact this
    rw [e]
    apply List.ext_getElem?
    intro j
    rw [List.getElem?_set]
    by_cases hj : m = j
    · subst hj
      rw [if_pos rfl, if_pos hml, List.getElem?_eq_getElem hml]
    · rw [if_neg hj]

/-! ## Renaming an algebra -/
def renOp (n : Nat) (s : List Int) (x : OpM) : OpM := (x.1, renTo n x.1.toNat s x.2 x.2 x.2.length)
def ren (x : AlgebraM) (s : List Int) : AlgebraM := (x.1, x.2.map (renOp x.1.toNat s))
def OpP (n : Nat) (x : OpM) : Prop := 0 ≤ x.1 ∧ x.1 ≤ 3 ∧ x.2.length = n ^ x.1.toNat ∧ ∀ v ∈ x.2, 0 ≤ v ∧ v ≤ (n : Int) - 1
def SmallP (x : AlgebraM) : Prop := 1 ≤ x.1 ∧ x.1 ≤ 5 ∧ x.2.length ≤ 4 ∧ ∀ o ∈ x.2, OpP x.1.toNat o
def AlgP (x : AlgebraM) : Prop := 1 ≤ x.1 ∧ x.1 ≤ 8 ∧ x.2.length ≤ 4 ∧ ∀ o ∈ x.2, OpP x.1.toNat o
theorem alg_iff {x : AlgebraM} : algB x = true ↔ AlgP x := by
  have hop : ∀ n o, opB n o = true ↔ OpP n o := fun n o => by
    unfold opB OpP inB
    rw [Bool.and_eq_true, Bool.and_eq_true, Bool.and_eq_true, decide_eq_true_eq, decide_eq_true_eq, decide_eq_true_eq, allIn_m]
    exact ⟨fun ⟨⟨a, b⟩, c, d⟩ => ⟨a, b, c, d⟩, fun ⟨a, b, c, d⟩ => ⟨⟨a, b⟩, c, d⟩⟩
  unfold algB AlgP inB
  simp only [Bool.and_eq_true, decide_eq_true_eq, List.all_eq_true, hop]
  exact ⟨fun ⟨⟨a, b⟩, c, d⟩ => ⟨a, b, c, d⟩, fun ⟨a, b, c, d⟩ => ⟨⟨a, b⟩, c, d⟩⟩
theorem renOp_small {n : Nat} {s : List Int} {x : OpM} (hs : PermL n s) (h : OpP n x) : OpP n (renOp n s x) :=
  ⟨h.1, h.2.1, by show (renTo _ _ _ _ _ _).length = _; rw [renTo_len]; exact h.2.2.1, renTo_in hs h.2.2.2 h.2.2.2 _ (Nat.le_refl _)⟩
theorem ren_small {x : AlgebraM} {s : List Int} (hs : PermL x.1.toNat s) (h : SmallP x) : SmallP (ren x s) := by
  refine ⟨h.1, h.2.1, by show (List.map _ _).length ≤ 4; rw [List.length_map]; exact h.2.2.1, fun o ho => ?_⟩
  have ho' : o ∈ x.2.map (renOp x.1.toNat s) := ho
  rw [List.mem_map] at ho'
  obtain ⟨o', h1, rfl⟩ := ho'
  exact renOp_small hs (h.2.2.2 o' h1)
theorem ren_up {x : AlgebraM} (h : SmallP x) : ren x (upTo x.1.toNat) = x := by
  obtain ⟨a, ops⟩ := x
  unfold ren
  show (a, ops.map (renOp a.toNat (upTo a.toNat))) = (a, ops)
  congr 1
  conv => rhs; rw [← List.map_id ops]
  apply List.map_congr_left
  intro o ho
  obtain ⟨k, t⟩ := o
  have h1 := h.2.2.2 (k, t) ho
  have hn : 0 < a.toNat := by have h0 : 1 ≤ a := h.1; omega
  show (k, renTo a.toNat k.toNat (upTo a.toNat) t t t.length) = (k, t)
  rw [renTo_up hn h1.2.2.1 h1.2.2.2 _ (Nat.le_of_eq h1.2.2.1)]
theorem ren_type {x : AlgebraM} {s : List Int} : (ren x s).2.map (·.1) = x.2.map (·.1) := by
  show (x.2.map (renOp x.1.toNat s)).map (·.1) = _
  rw [List.map_map]
  rfl
theorem code_eq {n : Nat} : ∀ {xs ys : List OpM}, (∀ o ∈ xs, OpP n o) → (∀ o ∈ ys, OpP n o) → xs.map (·.1) = ys.map (·.1) → codeL xs = codeL ys → xs = ys
  | [], [], _, _, _, _ => rfl
  | [], y :: ys, _, _, h, _ => by simp at h
  | x :: xs, [], _, _, h, _ => by simp at h
  | x :: xs, y :: ys, hx, hy, ht, hc => by
    rw [List.map_cons, List.map_cons] at ht
    injection ht with h1 h2
    have h3 := (hx x (by simp)).2.2.1
    have h4 := (hy y (by simp)).2.2.1
    rw [codeL, codeL] at hc
    obtain ⟨h5, h6⟩ := List.append_inj hc (by rw [h3, h4, h1])
    rw [code_eq (fun o ho => hx o (by simp [ho])) (fun o ho => hy o (by simp [ho])) h2 h6]
    congr 1
    exact Prod.ext h1 h5
/-! ## All orders of names -/
def ords (n : Nat) : Nat → List Int → List (List Int)
  | 0, s => [s]
  | r + 1, s => (List.range n).flatMap fun (x : Nat) => if hasI (x : Int) s then [] else ords n r (s ++ [(x : Int)])
theorem ords_perm {n : Nat} : ∀ (r : Nat) {s : List Int}, s.length + r = n → (∀ v ∈ s, 0 ≤ v ∧ v ≤ (n : Int) - 1) → s.Nodup → ∀ p ∈ ords n r s, PermL n p
  | 0, s, hl, hb, hn => by
    intro p hp
    rw [ords, List.mem_singleton] at hp
    subst hp
    exact ⟨by omega, hb, hn⟩
  | r + 1, s, hl, hb, hn => by
    intro p hp
    rw [ords, List.mem_flatMap] at hp
    obtain ⟨x, hx, hp⟩ := hp
    rw [List.mem_range] at hx
    split at hp
    · cases hp
    · rename_i h
      refine ords_perm r (by rw [List.length_append]; simp; omega) (fun v hv => ?_) ?_ p hp
      · rw [List.mem_append] at hv
        rcases hv with hv | hv
        · exact hb v hv
        · rw [List.mem_singleton] at hv
          omega
      · rw [List.nodup_append]
        refine ⟨hn, by simp, fun a ha b hb' e => ?_⟩
        rw [List.mem_singleton] at hb'
        subst hb'
        subst e
        exact h (hasI_m.2 ha)
/-! ## The first code -/
end Go.Proofs.YtfnmkbpogbekpaaGreatDoor
namespace Go.Proofs.YtfnmkbpogbekpaaGreatDoor
open Go.RowKit

def nats (l : List Nat) : List Int := l.map fun (d : Nat) => (d : Int)
/-- p places still to be laid; cur is what is left of the index. -/
def DgAt (n k i p cur : Nat) (L : List Int) : Prop := ∃ tl : List Nat, digs n k i = digs n p cur ++ tl ∧ L = List.replicate p 0 ++ nats tl ∧ p + tl.length = k ∧ cur ≤ i
theorem DgAt.start (n k i : Nat) : DgAt n k i k i (List.replicate k 0) := ⟨[], by simp, by simp [nats], rfl, Nat.le_refl _⟩
theorem DgAt.step {n k i p cur : Nat} {L : List Int} (h : DgAt n k i (p + 1) cur L) : DgAt n k i p (cur / n) (L.set p ((cur % n : Nat) : Int)) := by
  obtain ⟨tl, h1, rfl, h3, h4⟩ := h
  refine ⟨(cur % n) :: tl, by rw [h1, digs]; simp, ?_, by simp; omega, Nat.le_trans (Nat.div_le_self _ _) h4⟩
  rw [show List.replicate (p + 1) (0 : Int) = List.replicate p 0 ++ [0] by rw [List.replicate_succ'], List.append_assoc, List.set_append_right _ _ (by simp)]
  simp [nats]
theorem DgAt.done {n k i cur : Nat} {L : List Int} (h : DgAt n k i 0 cur L) : L = nats (digs n k i) := by
  obtain ⟨tl, h1, rfl, h3, -⟩ := h
  rw [h1, digs]
  simp
theorem ints_set (l : List Int) (p : Nat) (v : Int) : (ints l).set p (.int .i64 v) = ints (l.set p v) := by simp [ints, List.map_set]
theorem ints_rep (n : Nat) : ints (List.replicate n 0) = List.replicate n (.int .i64 0) := by simp [ints]
theorem ints_len (l : List Int) : (ints l).length = l.length := by simp [ints]

theorem w64 {x : Nat} (h : x ≤ 1048576) : wrap64 (x : Int) = x := by unfold wrap64; omega
set_option maxHeartbeats 1000000 in
theorem argsAt_any (i k n : Nat) (w : World) (hn : 0 < n) (hn8 : n ≤ 1048576) (hk : k ≤ 1048576) (hi : i ≤ 1048576) :
    Calls Tryz.prog 149 #[.int .i64 i, .int .i64 k, .int .i64 n] w fun e w' => ∃ g, e = .returned (.slice (some ⟨g, 0, none⟩) k k) ∧ w'.ownsRow w.heap.size 3 1 (.slice (some ⟨g, 0, none⟩) k k) k (ints (nats (digs n k i))) ∧ Below w.heap.size w w' := by
  go_enter Tryz.func149, Tryz.ntmps149
  go_wp2_with (at_make; refine make_ints _ rfl _ _ rfl k rfl rfl (by omega) ?_; intro w1 hown hg1)
  have hT := (Below.refl w.heap.size w).grown hg1 (Nat.le_refl _) (by simp)
  clear hg1
  go_loopw [0, 8] (fun c j wr => ∃ (p cur : Nat) (L : List Int), p ≤ k ∧ c = .int .i64 cur ∧ j = .int .i64 ((p : Int) - 1) ∧ Hid (DgAt n k i p cur L) ∧ cur ≤ 1048576 ∧ wr.ownsRow w.heap.size 3 1 (.slice (some ⟨w.heap.size, 0, none⟩) k k) k (ints L) ∧ Below w.heap.size w wr) (fun _ j _ => (intOf j + 1).toNat)
  case atStart => exact ⟨k, i, List.replicate k 0, Nat.le_refl _, rfl, by go_num, DgAt.start _ _ _, by omega, by rw [ints_rep]; exact hown, hT⟩
  case round =>
    clear hown hT
    obtain ⟨p, cur, L, hp, rfl, rfl, HD, hc, hown, hT⟩ := hrel
    rcases p with _ | p
    · have hl : Hid (L = nats (digs n k i)) := HD.out.done
      have h0 : ¬ (0 : Int) ≤ ((0 : Nat) : Int) - 1 := by omega
      go_wp2
      go_ret
      exact ⟨_, rfl, by rw [← hl.out]; exact hown, hT⟩
    · have h0 : (0 : Int) ≤ ((p + 1 : Nat) : Int) - 1 := by omega
      have hp0 : (0 : Int) ≤ (p : Int) := by omega
      have hp1 : (p : Int) < (k : Int) := by omega
      have HS : Hid (DgAt n k i p (cur / n) (L.set p ((cur % n : Nat) : Int))) := HD.out.step
      have e1 : ((p + 1 : Nat) : Int) - 1 = (p : Int) := by omega
      have hLl : p < (ints L).length := by have := hown.1; omega
      have hcell : wr.cell? ⟨w.heap.size, p, none⟩ = some ((ints L)[p]) := (hown.cellAt p (by omega)).trans (List.getElem?_eq_getElem hLl)
      have hfz : wr.frozen? ⟨w.heap.size, p, none⟩ = false := hown.frozenAt p
      have hst := (hown.stored p (.int .i64 ((cur % n : Nat) : Int))).1
      rw [ints_set] at hst
      have hnz : ¬ (n : Int) = 0 := by omega
      have hcd : cur / n ≤ 1048576 := Nat.le_trans (Nat.div_le_self _ _) hc
      have HQ : Hid (wrap64 ((cur : Int) / (n : Int)) = ((cur / n : Nat) : Int)) := by
        show _ = _
        have e : (cur : Int) / (n : Int) = ((cur / n : Nat) : Int) := by simp
        rw [e]
        exact w64 hcd
      rw [e1]
      clear h0 e1
      go_wp2
      go_roundw
      case rel => exact ⟨p, cur / n, _, by omega, by rw [HQ.out], by go_num, HS, hcd, hst, hT.setCell (Nat.le_refl _) _⟩
      case measure => simp [intOf]; try omega
/-- The index of a list of digits. -/
theorem idx_take {n : Nat} {l : List Nat} {k d : Nat} (h : l[k]? = some d) : idx n (l.take (k + 1)) = idx n (l.take k) * n + d := by
  rw [List.take_add_one, h]
  exact idx_snoc _ _ _
theorem idx_small {n : Nat} (hn : n ≤ 8) {l : List Nat} (hl : l.length ≤ 4) (hd : ∀ d ∈ l, d < n) : idx n l < 4096 + 1 := by
  have := idx_lt l.length l rfl hd
  have h2 := pow_bd hn hl
  omega
end Go.Proofs.YtfnmkbpogbekpaaGreatDoor
namespace Go.Proofs.YtfnmkbpogbekpaaGreatDoor
open Go.RowKit
set_option linter.unusedVariables false

def wsT (t : List Int) : List Bs := t.map Lib.itoa
/-- The least arity of a table of so many values. -/
def arL (n len : Nat) : Int := if n ^ 0 = len then 0 else if n ^ 1 = len then 1 else if n ^ 2 = len then 2 else if n ^ 3 = len then 3 else -1
def ArP (x : AlgebraM) : Prop := ∀ o ∈ x.2, o.1 = arL x.1.toNat o.2.length
def GoodA (x : AlgebraM) : Prop := AlgP x ∧ ArP x
/-- The text that the program writes. -/
def txA (x : AlgebraM) : Bs := Lib.itoa x.1 ++ sepB [59, 32] (x.2.map fun o => joinB [32] (wsT o.2))
/-- The text that the reference writes. -/
def txR (x : AlgebraM) : Bs := Lib.itoa x.1 ++ sepB [59] (x.2.map fun o => sepB [32] (wsT o.2))
theorem wsT_len (t : List Int) : (wsT t).length = t.length := by simp [wsT]
theorem wsT_inj : ∀ {a b : List Int}, wsT a = wsT b → a = b
  | [], [], _ => rfl
  | [], _ :: _, h => by simp [wsT] at h
  | _ :: _, [], h => by simp [wsT] at h
  | v :: a, u :: b, h => by
    simp only [wsT, List.map_cons] at h
    injection h with h1 h2
    rw [itoa_inj h1, wsT_inj h2]
theorem ws_no {t : List Int} {b : UInt8} (h1 : b ≠ 45) (h2 : ¬ isDg b) : ∀ w ∈ wsT t, b ∉ w := by
  intro w hw
  obtain ⟨v, -, rfl⟩ := List.mem_map.1 hw
  exact itoa_no h1 h2
theorem no32 : (32 : UInt8) ≠ 45 ∧ ¬ isDg 32 := by unfold isDg; decide
theorem no59 : (59 : UInt8) ≠ 45 ∧ ¬ isDg 59 := by unfold isDg; decide
theorem sepB_cons (sep t : Bs) (l : List Bs) : sepB sep (t :: l) = sep ++ joinB sep (t :: l) := by
  rw [joinB_cons]; simp [sepB]
theorem sepB_snoc (sep t : Bs) (l : List Bs) : sepB sep (l ++ [t]) = sepB sep l ++ (sep ++ t) := by simp [sepB]
theorem txA_join (x : AlgebraM) : txA x = joinB [59, 32] (Lib.itoa x.1 :: x.2.map fun o => joinB [32] (wsT o.2)) := by rw [joinB_cons]; rfl
theorem txR_join (x : AlgebraM) : txR x = joinB [59] (Lib.itoa x.1 :: x.2.map fun o => sepB [32] (wsT o.2)) := by rw [joinB_cons]; rfl
theorem tab_no (t : List Int) : (59 : UInt8) ∉ joinB [32] (wsT t) := fun h => by
  rcases mem_joinB h with h | ⟨w, hw, h⟩
  · simp at h
  · exact ws_no no59.1 no59.2 w hw h
theorem tabR_no (t : List Int) : (59 : UInt8) ∉ sepB [32] (wsT t) := fun h => by
  rcases ht : wsT t with _ | ⟨w, l⟩
  · rw [ht] at h; simp [sepB] at h
  · rw [ht, sepB_cons, ← ht, List.mem_append] at h
    rcases h with h | h
    · simp at h
    · exact tab_no t h
theorem cutA (x : AlgebraM) : Lib.split (txA x) [59, 32] = Lib.itoa x.1 :: x.2.map fun o => joinB [32] (wsT o.2) := by
  rw [txA_join]
  refine spl_join (by simp) fun t ht => ?_
  rcases List.mem_cons.1 ht with rfl | ht
  · exact itoa_no no59.1 no59.2
  · obtain ⟨o, -, rfl⟩ := List.mem_map.1 ht
    exact tab_no o.2
theorem cutR (x : AlgebraM) : splL 59 (txR x) = Lib.itoa x.1 :: x.2.map fun o => sepB [32] (wsT o.2) := by
  rw [txR_join]
  refine splL_join (by simp) fun t ht => ?_
  rcases List.mem_cons.1 ht with rfl | ht
  · exact itoa_no no59.1 no59.2
  · obtain ⟨o, -, rfl⟩ := List.mem_map.1 ht
    exact tabR_no o.2
theorem cutW {t : List Int} (h : t ≠ []) : Lib.split (joinB [32] (wsT t)) [32] = wsT t :=
  spl_join (by unfold wsT; simpa using h) (ws_no no32.1 no32.2)
theorem cutWR (t : List Int) : splL 32 (sepB [32] (wsT t)) = [] :: wsT t := by
  have e : sepB [32] (wsT t) = joinB [32] ([] :: wsT t) := by rw [joinB_cons]; rfl
  rw [e]
  refine splL_join (by simp) fun w hw => ?_
  rcases List.mem_cons.1 hw with rfl | hw
  · simp
  · exact ws_no no32.1 no32.2 w hw
theorem AlgP.tab_ne {x : AlgebraM} (h : AlgP x) : ∀ o ∈ x.2, o.2 ≠ [] := fun o ho e => by
  obtain ⟨h1, h2, h3, h4⟩ := h
  have h5 := (h4 o ho).2.2.1
  rw [e] at h5
  have := Nat.pow_pos (n := o.1.toNat) (show 0 < x.1.toNat by omega)
  simp at h5
  omega
theorem sep_tab {t : List Int} (h : t ≠ []) : sepB [32] (wsT t) = [32] ++ joinB [32] (wsT t) := by
  rcases t with _ | ⟨v, l⟩
  · exact absurd rfl h
  · exact sepB_cons _ _ _
theorem tx_same_of {n : Int} : ∀ {ops : List OpM}, (∀ o ∈ ops, o.2 ≠ []) → sepB [59] (ops.map fun o => sepB [32] (wsT o.2)) = sepB [59, 32] (ops.map fun o => joinB [32] (wsT o.2))
  | [], _ => rfl
  | o :: l, h => by
    have ih := tx_same_of (n := n) (ops := l) fun o' ho' => h o' (List.mem_cons_of_mem _ ho')
    have h1 := sep_tab (h o (List.mem_cons_self ..))
    unfold sepB at ih ⊢
    rw [List.map_cons, List.map_cons, List.flatten_cons, List.map_cons, List.map_cons, List.flatten_cons, ih]
    unfold sepB at h1
    rw [h1]
    rfl
theorem tx_same {x : AlgebraM} (h : AlgP x) : txR x = txA x := by
  unfold txR txA
  rw [tx_same_of (n := x.1) h.tab_ne]
theorem tabs_inj : ∀ {a b : List OpM}, (∀ o ∈ a, o.2 ≠ []) → (∀ o ∈ b, o.2 ≠ []) → (a.map fun o => joinB [32] (wsT o.2)) = (b.map fun o => joinB [32] (wsT o.2)) → a.map (·.2) = b.map (·.2)
  | [], [], _, _, _ => rfl
  | [], _ :: _, _, _, h => by simp at h
  | _ :: _, [], _, _, h => by simp at h
  | o :: a, p :: b, ha, hb, h => by
    simp only [List.map_cons] at h
    injection h with h1 h2
    have e1 := cutW (ha o (List.mem_cons_self ..))
    rw [h1, cutW (hb p (List.mem_cons_self ..))] at e1
    rw [List.map_cons, List.map_cons, wsT_inj e1.symm, tabs_inj (fun o ho => ha o (List.mem_cons_of_mem _ ho)) (fun o ho => hb o (List.mem_cons_of_mem _ ho)) h2]
theorem ops_of_tabs {n : Nat} : ∀ {a b : List OpM}, (∀ o ∈ a, o.1 = arL n o.2.length) → (∀ o ∈ b, o.1 = arL n o.2.length) → a.map (·.2) = b.map (·.2) → a = b
  | [], [], _, _, _ => rfl
  | [], _ :: _, _, _, h => by simp at h
  | _ :: _, [], _, _, h => by simp at h
  | o :: a, p :: b, ha, hb, h => by
    simp only [List.map_cons] at h
    injection h with h1 h2
    have e1 := ha o (List.mem_cons_self ..)
    have e2 := hb p (List.mem_cons_self ..)
    rw [h1, ← e2] at e1
    rw [ops_of_tabs (fun o ho => ha o (List.mem_cons_of_mem _ ho)) (fun o ho => hb o (List.mem_cons_of_mem _ ho)) h2, Prod.ext e1 h1]
theorem txA_inj {x y : AlgebraM} (hx : GoodA x) (hy : GoodA y) (h : txA x = txA y) : x = y := by
  have h1 := cutA x
  rw [h, cutA y] at h1
  injection h1 with h1 h2
  have e1 := (itoa_inj h1).symm
  have e2 := tabs_inj hy.1.tab_ne hx.1.tab_ne h2
  have hyA := hy.2
  unfold ArP at hyA
  rw [← e1] at hyA
  exact Prod.ext e1 (ops_of_tabs hx.2 hyA e2.symm)
open Classical in
/-- The algebra that a text is that of. -/
noncomputable def parA (s : ByteArray) : Option AlgebraM := if h : ∃ x, GoodA x ∧ s = mk (txA x) then some (Classical.choose h) else none
theorem parA_some {s : ByteArray} {x : AlgebraM} (hx : GoodA x) (h : s = mk (txA x)) : parA s = some x := by
  have he : ∃ x, GoodA x ∧ s = mk (txA x) := ⟨x, hx, h⟩
  unfold parA
  rw [dif_pos he]
  have h2 := Classical.choose_spec he
  have h3 : mk (txA x) = mk (txA (Classical.choose he)) := h.symm.trans h2.2
  rw [← txA_inj hx h2.1 (mk_inj h3)]
theorem parA_none {s : ByteArray} (h : ∀ x, GoodA x → s ≠ mk (txA x)) : parA s = none := by
  unfold parA
  rw [dif_neg]
  rintro ⟨x, h1, h2⟩
  exact h x h1 h2
theorem parA_good {s : ByteArray} {x : AlgebraM} (h : parA s = some x) : GoodA x ∧ s = mk (txA x) := by
  by_cases he : ∃ x, GoodA x ∧ s = mk (txA x)
  · obtain ⟨u, h1, h2⟩ := he
    rw [parA_some h1 h2] at h
    injection h with h
    subst h
    exact ⟨h1, h2⟩
  · rw [parA_none fun v h1 h2 => he ⟨v, h1, h2⟩] at h
    cases h
theorem GoodA.inD {x : AlgebraM} (h : GoodA x) : ∀ o ∈ x.2, ∀ v ∈ o.2, InD v := fun o ho v hv => by
  obtain ⟨h1, h2, h3, h4⟩ := h.1
  have := (h4 o ho).2.2.2 v hv
  unfold InD
  omega
/-- The pieces of the program's cut, read one by one. -/
def WsIs (ws : List Bs) (t : List Int) : Prop := ws = wsT t ∧ ∀ v ∈ t, InD v
def OpsIs (n : Nat) (ps : List Bs) (ops : List OpM) : Prop := ps.length = ops.length ∧ ∀ (k : Nat) (p : Bs) (o : OpM), ps[k]? = some p → ops[k]? = some o → WsIs (Lib.split p [32]) o.2 ∧ o.1 = arL n o.2.length
def OpsIsR (n : Nat) (ps : List Bs) (ops : List OpM) : Prop := ps.length = ops.length ∧ ∀ (k : Nat) (p : Bs) (o : OpM), ps[k]? = some p → ops[k]? = some o → (∃ ws, splL 32 p = [] :: ws ∧ WsIs ws o.2) ∧ o.1 = arL n o.2.length
theorem good_parts {x : AlgebraM} (h : GoodA x) : Lib.split (txA x) [59, 32] = Lib.itoa x.1 :: (x.2.map fun o => joinB [32] (wsT o.2)) ∧ InD x.1 ∧ OpsIs x.1.toNat (x.2.map fun o => joinB [32] (wsT o.2)) x.2 := by
  refine ⟨cutA x, by have := h.1.1; have := h.1.2.1; unfold InD; omega, by simp, fun k p o h1 h2 => ?_⟩
  rw [List.getElem?_map, h2] at h1
  injection h1 with h1
  subst h1
  have hm := List.mem_of_getElem? h2
  exact ⟨⟨cutW (h.1.tab_ne o hm), h.inD o hm⟩, h.2 o hm⟩
theorem good_partsR {x : AlgebraM} (h : GoodA x) : splL 59 (txA x) = Lib.itoa x.1 :: (x.2.map fun o => sepB [32] (wsT o.2)) ∧ InD x.1 ∧ OpsIsR x.1.toNat (x.2.map fun o => sepB [32] (wsT o.2)) x.2 := by
  rw [← tx_same h.1]
  refine ⟨cutR x, by have := h.1.1; have := h.1.2.1; unfold InD; omega, by simp, fun k p o h1 h2 => ?_⟩
  rw [List.getElem?_map, h2] at h1
  injection h1 with h1
  subst h1
  have hm := List.mem_of_getElem? h2
  exact ⟨⟨_, cutWR _, rfl, h.inD o hm⟩, h.2 o hm⟩
end Go.Proofs.YtfnmkbpogbekpaaGreatDoor
namespace Go.Proofs.YtfnmkbpogbekpaaGreatDoor
open Go.RowKit
set_option linter.unusedVariables false
set_option linter.unusedSimpArgs false

/-- What the library's variables hold: the powers of ten, two errors, a number. -/
def TabP (w : World) : Prop := Tab w ∧ (∃ m : Int, w.cell? ⟨0, 0, none⟩ = some (.int .i64 m)) ∧ (∃ tp p, w.var? Tryz.prog "strconv.ErrSyntax" = some #[.iface tp p]) ∧ (∃ tp p, w.var? Tryz.prog "strconv.ErrRange" = some #[.iface tp p])
theorem var_next {w w' : World} {n : String} {cs : Array Value} (hb : Below w.heap.size w w') (h : w.var? Tryz.prog n = some cs) : w'.var? Tryz.prog n = some cs := by
  unfold World.var? at h ⊢
  cases hg : Tryz.prog.globalNamed n with
  | none => rw [hg] at h; cases h
  | some g =>
    rw [hg] at h
    simp only [Option.bind_some] at h ⊢
    have hlt : g < w.heap.size := by
      rcases Nat.lt_or_ge g w.heap.size with h1 | h1
      · exact h1
      · rw [Array.getElem?_eq_none h1] at h; cases h
    rw [hb.block g hlt]
    exact h
theorem TabP.next {w w' : World} (h : TabP w) (hb : Below w.heap.size w w') : TabP w' := by
  obtain ⟨h1, ⟨m, h2⟩, ⟨tp, p, h3⟩, ⟨tq, q, h4⟩⟩ := h
  exact ⟨h1.next hb, ⟨m, keepc hb h2⟩, ⟨tp, p, var_next hb h3⟩, ⟨tq, q, var_next hb h4⟩⟩
theorem TabP.drewN {w : World} (h : TabP w) (n : Nat) : TabP (w.drewN n) := h.next (below_drewN (Below.refl _ _) _)

theorem itoaI_any (v : Int) (hv : InD v) (w : World) (ht : Tab w) : Calls Tryz.prog 143 #[.int .i64 v] w (Bl w (.string (mk (Lib.itoa v)))) := by
  obtain ⟨h1, h2⟩ := hv
  refine (Tryz.strconv_Itoa v (by omega) (by omega) w ht).mono fun _ _ ⟨he, k, os, hw⟩ => ⟨he, ?_⟩
  rw [hw]
  exact below_grow _ _ _
set_option maxHeartbeats 1000000 in
theorem formatInt_any (v : Int) (w : World) (hv : -9223372036854775808 ≤ v ∧ v ≤ 9223372036854775807) (ht : Tab w) :
    Calls Tryz.prog 140 #[.int .i64 v] w (fun e w' => Below w.heap.size w w' ∧ ((InD v ∧ e = .returned (.tuple #[.string (mk (Lib.itoa v)), .bool true])) ∨ (¬ InD v ∧ e = .returned (.tuple #[.string ⟨#[]⟩, .bool false])))) := by
  by_cases h1 : v < -999999
  · go_enter Tryz.func140, Tryz.ntmps140
    go_wp2_with fail
    go_ret2
    exact ⟨Below.refl _ _, .inr ⟨fun h => by have := h.1; omega, rfl⟩⟩
  · by_cases h2 : 999999 < v
    · go_enter Tryz.func140, Tryz.ntmps140
      go_wp2_with fail
      go_ret2
      exact ⟨Below.refl _ _, .inr ⟨fun h => by have := h.2; omega, rfl⟩⟩
    · have hd : InD v := ⟨by omega, by omega⟩
      have HI := Lib.hid (itoaI_any v hd w ht)
      have HD := Lib.hid hd
      clear hd
      go_enter Tryz.func140, Tryz.ntmps140
      go_wp2_with fail
      refine HI.out.mono ?_
      rintro e w1 ⟨rfl, hb⟩
      go_wp2_with fail
      go_ret2
      exact ⟨hb, .inl ⟨HD.out, rfl⟩⟩
/-- A number as the calls tell it. -/
noncomputable def rdN (s : ByteArray) : Int := (readI s).getD 0
noncomputable def rdB (s : ByteArray) : Bool := (readI s).isSome
theorem rd_some {s : ByteArray} {v : Int} (h : readI s = some v) : rdN s = v ∧ rdB s = true := by unfold rdN rdB; rw [h]; exact ⟨rfl, rfl⟩
theorem rd_none {s : ByteArray} (h : readI s = none) : rdN s = 0 ∧ rdB s = false := by unfold rdN rdB; rw [h]; exact ⟨rfl, rfl⟩
theorem ret_num {s : ByteArray} {v : Int} {b : Bool} (h : rdN s = v ∧ rdB s = b) : Ending.returned (.tuple #[.int .i64 v, .bool b]) = .returned (.tuple #[.int .i64 (rdN s), .bool (rdB s)]) := by rw [h.1, h.2]
theorem read_mk {s : ByteArray} {v : Int} (hv : InD v) (h : s = mk (Lib.itoa v)) : Lib.atoiAll s.data.toList = .ok v := by rw [h]; exact atoi_itoa hv
theorem read_else {s : ByteArray} (h : ∀ v, Lib.atoiAll s.data.toList ≠ .ok v) : readI s = none := readI_none fun v hv e => h v (read_mk hv e)
theorem read_ok {s : ByteArray} {v : Int} (h : Lib.atoiAll s.data.toList = .ok v) : (InD v → s = mk (Lib.itoa v) → readI s = some v) ∧ ((¬ InD v ∨ s ≠ mk (Lib.itoa v)) → readI s = none) := by
  refine ⟨fun h1 h2 => readI_some h1 h2, fun h1 => readI_none fun u hu e => ?_⟩
  have := read_mk hu e
  rw [h] at this
  injection this with this
  subst this
  rcases h1 with h1 | h1
  · exact h1 hu
  · exact h1 e
theorem atoi_bd : ∀ {l : Bs} {v : Int}, Lib.atoiAll l = .ok v → -9223372036854775808 ≤ v ∧ v ≤ 9223372036854775807
  | [], v, h => by cases h
  | c :: r, v, h => by
    unfold Lib.atoiAll at h
    simp only at h
    split at h
    · cases h
    · cases h
    · split at h
      · cases h
      · split at h
        · cases h
        · injection h with h
          subst h
          rename_i h1 h2
          split
          · rename_i h3
            have : ¬ 9223372036854775808 < (_ : Nat) := fun h4 => h2 ⟨h3, h4⟩
            omega
          · rename_i h3
            have : ¬ 9223372036854775808 ≤ (_ : Nat) := fun h4 => h1 ⟨h3, h4⟩
            omega
set_option maxHeartbeats 2000000 in
theorem parseInt_any (s : ByteArray) (w : World) (hs : s.size ≤ 1099511627776) (ht : TabP w) :
    Calls Tryz.prog 81 #[.string s] w (Bl w (.tuple #[.int .i64 (rdN s), .bool (rdB s)])) := by
  obtain ⟨h1, h2, ⟨tp, p, h3⟩, ⟨tq, q, h4⟩⟩ := ht
  cases h : Lib.atoiAll s.data.toList with
  | ok v =>
    have HA := Lib.hid (Tryz.strconv_Atoi_ok s (by omega) v h w)
    have HR := Lib.hid (read_ok h)
    have HB := Lib.hid (atoi_bd h)
    have HT := Lib.hid h1
    clear h h1 h2 h3 h4
    go_enter Tryz.func81, Tryz.ntmps81
    go_wp2_with fail
    refine HA.out.mono ?_
    rintro e w1 ⟨rfl, hw⟩
    have hb1 : Below w.heap.size w w1 := by
      rcases hw with rfl | ⟨t, rfl⟩
      · exact Below.refl _ _
      · exact Lib.bytesWorld_below _ _ _
    clear hw
    go_wp2_with fail
    refine (formatInt_any v w1 HB.out (HT.out.next hb1)).mono ?_
    rintro e w2 ⟨hb2, hc⟩
    have T2 := below_next hb1 hb2 rfl
    rcases hc with ⟨hd, rfl⟩ | ⟨hd, rfl⟩
    rotate_left
    · have HN : Hid (readI s = none) := HR.out.2 (.inl hd)
      clear hd
      go_wp2_with fail
      go_ret2
      exact ⟨ret_num (rd_none HN.out), T2⟩
    · have HI := Lib.hid hd
      clear hd
      obtain ⟨t, HT2⟩ : ∃ t, Hid (mk (Lib.itoa v) = t) := ⟨_, rfl⟩
      rw [HT2.out]
      by_cases he : t = s
      · have HN : Hid (readI s = some v) := HR.out.1 HI.out (by rw [← he, HT2.out])
        have hd : (t.toList == s.toList) = true := eqq_str (eqC_iff.2 he)
        clear he
        go_wp2_with fail
        go_ret2
        exact ⟨ret_num (rd_some HN.out), T2⟩
      · have HN : Hid (readI s = none) := HR.out.2 (.inr (fun e => he (by rw [e, HT2.out])))
        have hd : (t.toList == s.toList) = false := eqq_str (eqC_no.2 he)
        clear he
        go_wp2_with fail
        go_ret2
        exact ⟨ret_num (rd_none HN.out), T2⟩
  | «syntax» =>
    have HA := Lib.hid (Tryz.strconv_Atoi_syntax_var s (by omega) h tp p w h3)
    have HN : Hid (readI s = none) := read_else fun v e => by rw [h] at e; cases e
    clear h h1 h2 h3 h4
    go_enter Tryz.func81, Tryz.ntmps81
    go_wp2_with fail
    refine HA.out.mono ?_
    rintro e w1 ⟨N, rfl, -, -, hb1⟩
    go_wp2_with fail
    go_ret2
    exact ⟨ret_num (rd_none HN.out), hb1⟩
  | range =>
    have HA := Lib.hid (Tryz.strconv_Atoi_range_var s (by omega) h tq q w h4)
    have HN : Hid (readI s = none) := read_else fun v e => by rw [h] at e; cases e
    clear h h1 h2 h3 h4
    go_enter Tryz.func81, Tryz.ntmps81
    go_wp2_with fail
    refine HA.out.mono ?_
    rintro e w1 ⟨N, rfl, -, -, hb1⟩
    go_wp2_with fail
    go_ret2
    exact ⟨ret_num (rd_none HN.out), hb1⟩

/-! ## The reference -/
theorem l1NumI_any (v : Int) (hv : InD v) (w : World) : Calls Tryz.prog 156 #[.int .i64 v] w (Qt w (.string (mk (Lib.itoa v)))) := by
  obtain ⟨h1, h2⟩ := hv
  by_cases h : v < 0
  · obtain ⟨u, rfl⟩ : ∃ u : Nat, v = -(u : Int) := ⟨v.natAbs, by omega⟩
    have hr := l1Num_any u (by omega)
    have hu : 1 ≤ u := by omega
    have HE : Hid ((⟨#[45]⟩ : ByteArray) ++ mk (Lib.decDigits u) = mk (Lib.itoa (-(u : Int)))) := by
      show _ = _
      apply mk_eq
      rw [bs_app, itoa_min h, bs_of, show (-(u : Int)).natAbs = u by omega]
      rfl
    have hneg : IntKind.i64.wrap (-(-(u : Int))) = (u : Int) := by rw [Int.neg_neg]; exact IntWalk.i64_in _ (by omega)
    have kc := cat (⟨#[45]⟩ : ByteArray) (mk (Lib.decDigits u)) (by
      have h3 := dec_len (u := u) (by omega)
      rw [size_mk]
      show 1 + _ ≤ _
      omega)
    have hl : -(u : Int) < 0 := by omega
    have HR := Lib.hid hr
    clear hr
    go_enter Tryz.func156, Tryz.ntmps156
    go_wp2_with fail
    (try rw [hneg])
    refine (HR.out w).mono ?_
    rintro e w1 ⟨rfl, hd⟩
    go_wp2_with fail
    go_ret
    exact ⟨ret_str HE.out, hd⟩
  · obtain ⟨u, rfl⟩ : ∃ u : Nat, v = (u : Int) := ⟨v.toNat, by omega⟩
    rw [itoa_pos (by omega), Int.toNat_natCast]
    exact l1Num_any u (by omega) w
end Go.Proofs.YtfnmkbpogbekpaaGreatDoor
namespace Go.Proofs.YtfnmkbpogbekpaaGreatDoor
open Go.RowKit

theorem info_str16 : (Tryz.prog.info? 9).map (fun i => (i.zero, i.size, i.bytes)) = some (some (.string ⟨#[]⟩), 1, 16) := by kernel_rfl
def strs (l : List Bs) : List Value := l.map fun s => .string (mk s)
theorem strs_snoc (l : List Bs) (s : Bs) : strs (l ++ [s]) = strs l ++ [.string (mk s)] := by simp [strs]
def RSb (_ : World) (v : Value) (x : Bs) : Prop := v = .string (mk x)
theorem stab_RSb : Stab RSb := fun _ _ _ _ _ h => h

def SplAt (b : UInt8) (l : Bs) (out : List Bs) (q i : Nat) : Prop := out ++ splL b (l.drop q) = splL b l ∧ ∀ j, q ≤ j → j < i → l[j]? ≠ some b
theorem SplAt.start (b : UInt8) (l : Bs) : SplAt b l [] 0 0 := ⟨by simp, fun j _ h => by omega⟩
theorem SplAt.skip {b : UInt8} {l : Bs} {out : List Bs} {q i : Nat} (h : SplAt b l out q i) (hi : l[i]? ≠ some b) : SplAt b l out q (i + 1) := by
  refine ⟨h.1, fun j h1 h2 => ?_⟩
  rcases Nat.lt_or_ge j i with h3 | h3
  · exact h.2 j h1 h3
  · have : j = i := by omega
    subst this
    exact hi
theorem not_mem_piece {b : UInt8} {l : Bs} {q i : Nat} (h : ∀ j, q ≤ j → j < i → l[j]? ≠ some b) : b ∉ (l.drop q).take (i - q) := fun hm => by
  obtain ⟨j, hj⟩ := List.getElem?_of_mem hm
  rw [List.getElem?_take] at hj
  split at hj
  · rw [List.getElem?_drop] at hj
    exact h (q + j) (by omega) (by omega) hj
  · cases hj
theorem SplAt.cut {b : UInt8} {l : Bs} {out : List Bs} {q i : Nat} (h : SplAt b l out q i) (hq : q ≤ i) (hi : l[i]? = some b) : SplAt b l (out ++ [(l.drop q).take (i - q)]) (i + 1) (i + 1) := by
  refine ⟨?_, fun j h1 h2 => by omega⟩
  have hlt := (List.getElem?_eq_some_iff.1 hi).1
  have e : l.drop q = (l.drop q).take (i - q) ++ b :: l.drop (i + 1) := by
    have h1 := List.take_append_drop (i - q) (l.drop q)
    rw [List.drop_drop, show q + (i - q) = i by omega, List.drop_eq_getElem_cons hlt] at h1
    have h2 : l[i] = b := (List.getElem?_eq_some_iff.1 hi).2
    rw [h2] at h1
    exact h1.symm
  have hn := not_mem_piece h.2
  obtain ⟨X, hX⟩ : ∃ X, X = (l.drop q).take (i - q) := ⟨_, rfl⟩
  rw [← hX] at e hn ⊢
  rw [← h.1, e, splL_app hn]
  simp
theorem SplAt.done {b : UInt8} {l : Bs} {out : List Bs} {q i : Nat} (h : SplAt b l out q i) (hi : l.length ≤ i) : splL b l = out ++ [l.drop q] := by
  rw [← h.1, splL_no]
  intro hm
  obtain ⟨j, hj⟩ := List.getElem?_of_mem hm
  rw [List.getElem?_drop] at hj
  have := (List.getElem?_eq_some_iff.1 hj).1
  exact h.2 (q + j) (by omega) (by omega) hj

theorem ret_slS {A : Option Addr} {n m c : Nat} (h : n = m) : Ending.returned (.slice A n c) = .returned (.slice A m c) := by rw [h]
def SplitR (w : World) (l : List Bs) (e : Ending) (w' : World) : Prop := ∃ A c, e = .returned (.slice A l.length c) ∧ RdL RSb w' A l.length l ∧ Below w.heap.size w w'
def SplitO (w : World) (l : List Bs) (e : Ending) (w' : World) : Prop := ∃ A c, e = .returned (.slice A l.length c) ∧ w'.ownsRow w.heap.size 9 1 (.slice A l.length c) l.length (strs l) ∧ Below w.heap.size w w' ∧ l.length ≤ maxLen
/-- An own row of another element type stays when one row grows. -/
theorem own_otherS {w w' : World} {b1 b2 e1 e2 s1 s2 n1 n2 : Nat} {v1 v2 : Value} {x1 x2 : List Value} (h1 : w.ownsRow b1 e1 s1 v1 n1 x1) (h2 : w.ownsRow b2 e2 s2 v2 n2 x2) (he : e1 ≠ e2) (hg : w.grownBy w' v2.ownBlock) : w'.ownsRow b1 e1 s1 v1 n1 x1 := by
  refine ⟨h1.1, ?_⟩
  rcases h1.2 with h | ⟨g, cap, cur, hv, hb, hc, rest⟩
  · exact .inl h
  · refine .inr ⟨g, cap, cur, hv, hb, ?_, rest⟩
    rw [hg.block g (Array.getElem?_eq_some_iff.1 hc).1 ?_]
    · exact hc
    · intro hk
      rcases h2.2 with ⟨rfl, -⟩ | ⟨g2, cap2, cur2, rfl, -, hc2, -⟩
      · simp [Value.ownBlock] at hk
      · simp only [Value.ownBlock, Option.some.injEq] at hk
        subst hk
        rw [hc] at hc2
        injection hc2 with hc2
        injection hc2 with _ h3 _
        exact he h3
theorem rd_strs {w : World} {base n c : Nat} {A : Option Addr} {l : List Bs} (hn : n ≤ maxLen) (h : w.ownsRow base 9 1 (.slice A n c) n (strs l)) (hl : l.length = n) : RdL RSb w A n l := by
  obtain ⟨A', c', e, hr⟩ := RdL.ofOwn (R := RSb) hn h hl (fun k x hk => ⟨.string (mk x), by simp [strs, hk], rfl⟩)
  injection e with e1 e2 e3
  subst e1
  exact hr

set_option maxHeartbeats 1000000 in
theorem l1Split_own (s : ByteArray) (b : UInt8) (c : Int) (hbc : (b.toNat : Int) = c) (w : World) (hs : s.size ≤ 1073741824) :
    Calls Tryz.prog 94 #[.string s, .int .u8 c] w (SplitO w (splL b (bs s))) := by
  subst hbc
  go_enter Tryz.func94, Tryz.ntmps94
  go_wp2
  go_loopw [5, 6, 7] (fun v f i wr => ∃ (k q m : Nat) (out : List Bs) (A : Option Addr) (c : Nat), k ≤ s.size ∧ q ≤ k ∧ m ≤ k ∧ i = .int .i64 k ∧ f = .int .i64 q ∧ v = .slice A m c ∧ out.length = m ∧ wr.ownsRow w.heap.size 9 1 (.slice A m c) m (strs out) ∧ SplAt b (bs s) out q k ∧ Below w.heap.size w wr) (fun _ _ i _ => s.size - (intOf i).toNat)
  case atStart => exact ⟨0, 0, 0, [], _, _, Nat.zero_le _, Nat.le_refl _, Nat.le_refl _, rfl, rfl, rfl, rfl, World.ownsRow_lit _ _ _ (Nat.le_refl _) (Nat.zero_le _) rfl, SplAt.start _ _, below_box _ _⟩
  case round =>
    obtain ⟨k, q, m, out, A, c, hk, hqk, hmk, rfl, rfl, rfl, hml, hown, H, hT⟩ := hrel
    have HML := Lib.hid hml
    clear hml
    have hbase := hT.size
    by_cases hlt : k < s.size
    · have HG : Hid ((bs s)[k]? = some s[k]) := by
        show (s.data.toList)[k]? = _
        rw [List.getElem?_eq_getElem (by exact hlt)]
        rfl
      rcases hb : ((s[k].toNat : Int) == (b.toNat : Int)) with _ | _
      · have HN : Hid ((bs s)[k]? ≠ some b) := by
          show ¬ _
          rw [HG.out]
          rintro h
          injection h with h
          rw [h] at hb
          simp at hb
        go_wp2
        go_roundw
        case rel => exact ⟨k + 1, q, m, out, A, c, by omega, by omega, by omega, by go_num, rfl, rfl, HML.out, hown, H.skip HN.out, hT⟩
        case measure => simp [intOf]; omega
      · have HY : Hid ((bs s)[k]? = some b) := by
          show _ = _
          rw [HG.out]
          have : s[k].toNat = b.toNat := by have := beq_iff_eq.1 hb; omega
          rw [UInt8.toNat_inj.1 this]
        have HP : Hid (s.extract q k = mk (((bs s).drop q).take (k - q))) := by
          show _ = _
          apply mk_eq
          rw [bs_ext]
        have hq0 : (0 : Int) ≤ (q : Int) := by omega
        have hqk' : (q : Int) ≤ (k : Int) := by omega
        have hk0 : (0 : Int) ≤ (k : Int) := by omega
        have hks : (k : Int) ≤ (s.size : Int) := by omega
        go_wp2_with (at_builtin; refine app1 wr rfl _ _ 117 9 rfl (.string ⟨#[]⟩) 16 Tryz.underlying117 info_str16 rfl (by decide) w.heap.size m c A (strs out) rfl hown (.string (s.extract q k)) rfl rfl (by omega) hbase ?_; intro A3 c3 w3 hown3 hg3 hb3)
        go_roundw
        case rel => exact ⟨k + 1, k + 1, m + 1, out ++ [((bs s).drop q).take (k - q)], A3, c3, by omega, by omega, by omega, by go_num, by go_num, rfl, by rw [List.length_append, HML.out]; rfl, by rw [strs_snoc, ← HP.out]; exact hown3, H.cut hqk HY.out, hT.trans hb3⟩
        case measure => simp [intOf]; omega
    · obtain rfl : k = s.size := by omega
      have HP : Hid (s.extract q s.size = mk ((bs s).drop q)) := by
        show _ = _
        apply mk_eq
        rw [bs_ext, List.take_of_length_le (by rw [List.length_drop, size_bs]; omega)]
      have HD := Lib.hid (H.done (Nat.le_refl _))
      have hq0 : (0 : Int) ≤ (q : Int) := by omega
      have hqk' : (q : Int) ≤ (s.size : Int) := by omega
      go_wp2_with (at_builtin; refine app1 wr rfl _ _ 117 9 rfl (.string ⟨#[]⟩) 16 Tryz.underlying117 info_str16 rfl (by decide) w.heap.size m c A (strs out) rfl hown (.string (s.extract q s.size)) rfl rfl (by omega) hbase ?_; intro A3 c3 w3 hown3 hg3 hb3)
      go_ret
      have hl : (splL b (bs s)).length = m + 1 := by rw [HD.out, List.length_append, HML.out]; rfl
      refine ⟨A3, c3, ret_slS hl.symm, ?_, hT.trans hb3, by unfold maxLen; omega⟩
      rw [hl]
      rw [HD.out, strs_snoc, ← HP.out]
      exact hown3
theorem l1Split_any (s : ByteArray) (b : UInt8) (c : Int) (hbc : (b.toNat : Int) = c) (w : World) (hs : s.size ≤ 1073741824) :
    Calls Tryz.prog 94 #[.string s, .int .u8 c] w (SplitR w (splL b (bs s))) := by
  refine (l1Split_own s b c hbc w hs).mono ?_
  rintro e w' ⟨A, c, rfl, ho, hb, hm⟩
  exact ⟨A, c, rfl, rd_strs hm ho rfl, hb⟩
/-- A cut by the library, as a row that reads. -/
theorem splitB_map (s sep : ByteArray) : (Lib.splitB sep 0 (Lib.countB s sep) s).map bs = Lib.split (bs s) (bs sep) := Lib.splitB_data sep 0 _ s
theorem countB_len (s sep : ByteArray) (h1 : 1 ≤ sep.size) : (Lib.splitB sep 0 (Lib.countB s sep) s).length = Lib.countB s sep + 1 := by
  have key : ∀ (k : Nat) (t : ByteArray), Lib.countB t sep = k → (Lib.splitB sep 0 k t).length = k + 1 := by
    intro k
    induction k with
    | zero => intro t _; rfl
    | succ k ih =>
      intro t ht
      rcases Lib.indexB_cases t sep with h | ⟨i, h, -⟩
      · rw [Lib.countB_miss _ _ h] at ht
        cases ht
      · rw [Lib.countB_hit _ _ i h1 h] at ht
        rw [Lib.splitB_hit _ _ _ _ i h, List.length_cons, ih _ (by omega)]
  exact key _ s rfl
theorem split_lib_any (s sep : ByteArray) (w : World) (hs : s.size ≤ 1073741824) (h1 : 1 ≤ sep.size) (ht : TabP w) :
    Calls Tryz.prog 80 #[.string s, .string sep] w fun e w' => e = .returned (.slice (some ⟨w.heap.size, 0, none⟩) (Lib.split (bs s) (bs sep)).length (Lib.split (bs s) (bs sep)).length) ∧ RdL RSb w' (some ⟨w.heap.size, 0, none⟩) (Lib.split (bs s) (bs sep)).length (Lib.split (bs s) (bs sep)) ∧ Below w.heap.size w w' := by
  obtain ⟨-, ⟨m, hm⟩, -⟩ := ht
  have hlen : (Lib.split (bs s) (bs sep)).length = Lib.countB s sep + 1 := by rw [← splitB_map, List.length_map, countB_len _ _ h1]
  have hc : Lib.countB s sep ≤ s.size + 1 := Lib.count_le _ _
  refine (Tryz.strings_Split s sep m w (by omega) hm h1).mono ?_
  rintro e w' ⟨rfl, rfl⟩
  rw [hlen]
  have hb := below_box w (.cells ((Lib.splitB sep 0 (Lib.countB s sep) s).map Value.string).toArray 9)
  refine ⟨rfl, ?_, hb⟩
  have hB := Blk.new w 9 ((Lib.splitB sep 0 (Lib.countB s sep) s).map Value.string).toArray
  refine ⟨hlen, by unfold maxLen; omega, fun k x hk => ⟨w.heap.size, 0, .string (mk x), rfl, ?_, rfl⟩⟩
  have hcl := hB.cell k
  rw [Nat.zero_add, hcl]
  rw [← splitB_map, List.getElem?_map] at hk
  rw [List.getElem?_toArray, List.getElem?_map]
  cases hq : (Lib.splitB sep 0 (Lib.countB s sep) s)[k]? with
  | none => rw [hq] at hk; cases hk
  | some t =>
    rw [hq] at hk
    injection hk with hk
    rw [← hk, mk_of]
    rfl
end Go.Proofs.YtfnmkbpogbekpaaGreatDoor
namespace Go.Proofs.YtfnmkbpogbekpaaGreatDoor
open Go.RowKit
set_option linter.unusedVariables false
set_option linter.unusedSimpArgs false

theorem tl_len (l : Bs) : (tl l).length ≤ l.length := by
  unfold tl
  split
  · rw [List.length_drop]; omega
  · exact Nat.le_refl _
set_option maxHeartbeats 4000000 in
theorem l1Read_any (s : ByteArray) (w : World) (hs : s.size ≤ 1099511627776) : Calls Tryz.prog 95 #[.string s] w (Qt w (.tuple #[.int .i64 (rdN s), .bool (rdB s)])) := by
  obtain ⟨T, HT⟩ : ∃ T, Hid (bs T = tl (bs s)) := ⟨mk (tl (bs s)), rfl⟩
  have hTs : T.size ≤ s.size := by
    have := tl_len (bs s)
    rw [← HT.out] at this
    exact this
  have HTS := Lib.hid hTs
  have HMK : Hid (mk (bs s) = s) := mk_of s
  have hTl : (bs T).length = T.size := rfl
  have hsl : (bs s).length = s.size := rfl
  have HB := Lib.hid (And.intro hTl hsl)
  clear hTl hsl
  go_enter Tryz.func95, Tryz.ntmps95
  go_upto_region 2 with fail
  obtain ⟨bb, HBB⟩ : ∃ bb, Hid ((decide (1 < s.size) && decide ((bs s)[0]? = some 45)) = bb) := ⟨_, Lib.hid rfl⟩
  go_cut [15] from 8 to 15 (fun u15 wx => u15 = .bool bb ∧ w = wx)
  case first =>
    by_cases h1 : (1 : Int) < (s.size : Int)
    · have h0 : 0 < s.size := by omega
      have hz : (bs s)[0]? = some s[0] := by
        show (s.data.toList)[0]? = _
        rw [List.getElem?_eq_getElem (by exact h0)]
        rfl
      rcases hb : ((s[0].toNat : Int) == 45) with _ | _
      · have e : bb = false := by
          rw [← HBB.out, hz]
          have : ¬ (some s[0] = some (45 : UInt8)) := fun h2 => by
            injection h2 with h2
            rw [h2] at hb
            simp at hb
          rw [decide_eq_false this, Bool.and_false]
        clear hz
        go_wp2_with fail
        go_meet
        exact ⟨by rw [e], rfl⟩
      · have e : bb = true := by
          rw [← HBB.out, hz]
          have h2 : s[0].toNat = 45 := by have := beq_iff_eq.1 hb; omega
          have h3 : s[0] = 45 := UInt8.toNat_inj.1 h2
          rw [h3]
          simp
          omega
        clear hz
        go_wp2_with fail
        go_meet
        exact ⟨by rw [e], rfl⟩
    · have e : bb = false := by rw [← HBB.out, decide_eq_false (show ¬ 1 < s.size by omega)]; rfl
      go_wp2_with fail
      go_meet
      exact ⟨by rw [e], rfl⟩
  case rest =>
  obtain ⟨rfl, rfl⟩ := hcut
  go_upto_if 15 with fail
  go_cut [4] from 16 to 17 (fun u4 wx => u4 = .string T ∧ w = wx)
  case first =>
    rcases bb with _ | _
    · have HN : Hid (¬ (1 < (bs s).length ∧ (bs s)[0]? = some 45)) := fun h => by
        have := HBB.out
        rw [decide_eq_true (show 1 < s.size from h.1), decide_eq_true h.2] at this
        cases this
      go_wp2_with fail
      go_meet
      refine ⟨?_, rfl⟩
      have e : tl (bs s) = bs s := by unfold tl; rw [if_neg HN.out]
      rw [bs_inj (HT.out.trans e)]
    · have HY : Hid (1 < (bs s).length ∧ (bs s)[0]? = some 45) := by
        have := HBB.out
        rw [Bool.and_eq_true, decide_eq_true_iff, decide_eq_true_iff] at this
        exact this
      have hs1 : (1 : Int) ≤ (s.size : Int) := by have := HY.out.1; have := HB.out.2; omega
      go_wp2_with fail
      go_meet
      refine ⟨?_, rfl⟩
      have e : tl (bs s) = (bs s).drop 1 := by unfold tl; rw [if_pos HY.out]
      have e2 : s.extract 1 s.size = T := by
        apply bs_inj
        rw [bs_ext, HT.out, e, List.take_of_length_le (by rw [List.length_drop]; show s.size - 1 ≤ _; omega)]
      rw [e2]
  case rest =>
    obtain ⟨rfl, rfl⟩ := hcut
    by_cases hin : 1 ≤ T.size ∧ T.size ≤ 6
    · have HI : Hid (inB (T.size : Int) 1 6 = true) := by show _ = _; unfold inB; simp; omega
      have hT6 : T.size ≤ 6 := hin.2
      go_upto_region 4 with fail
      go_wp2_with (go_at_call 68; refine (l1In_any _ _ _ _).mono ?_; rintro e w' ⟨rfl, rfl⟩; rw [HI.out])
      go_loop [5, 6] (fun n i => ∃ (k q : Nat), k ≤ T.size ∧ i = .int .i64 k ∧ n = .int .i64 q ∧ q ≤ 999999 ∧ Hid (DvAt (bs T) k q)) (fun _ i => T.size - (intOf i).toNat)
      case atStart => exact ⟨0, 0, Nat.zero_le _, rfl, rfl, by omega, Lib.hid (DvAt.start _)⟩
      case round =>
        obtain ⟨k, q, hk, rfl, rfl, hq, H⟩ := hrel
        by_cases hlt : k < T.size
        · have HG : Hid ((bs T)[k]? = some T[k]) := by
            show (T.data.toList)[k]? = _
            rw [List.getElem?_eq_getElem (by exact hlt)]
            rfl
          by_cases hd : isDg T[k]
          · have h48 : ¬ (T[k].toNat : Int) < 48 := by unfold isDg at hd; omega
            have h57 : ¬ (57 : Int) < (T[k].toNat : Int) := by unfold isDg at hd; omega
            have HN := Lib.hid (H.out.step HG.out hd)
            have hbd := H.out.step HG.out hd
            have hb2 := hbd.bd (by have := HB.out.1; omega)
            have e1 : IntKind.u8.wrap ((T[k].toNat : Int) - 48) = (T[k].toNat : Int) - 48 := by have := T[k].toNat_lt; unfold IntKind.wrap; simp [IntKind.bits, IntKind.signed]; omega
            have e2 : IntKind.i64.wrap ((T[k].toNat : Int) - 48) = (T[k].toNat : Int) - 48 := IntWalk.i64_in _ (by have := T[k].toNat_lt; omega)
            have e3 : IntKind.i64.wrap (10 * (q : Int)) = 10 * (q : Int) := IntWalk.i64_in _ (by omega)
            have e4 : IntKind.i64.wrap (10 * (q : Int) + ((T[k].toNat : Int) - 48)) = ((10 * q + (T[k].toNat - 48) : Nat) : Int) := by
              rw [IntWalk.i64_in _ (by have := T[k].toNat_lt; omega)]
              push_cast
              omega
            clear hbd
            go_wp2_with fail
            go_round
            case rel => exact ⟨k + 1, _, by omega, by go_num, by first | rfl | rw [e1, e2, e3, e4] | simp [e1, e2, e3, e4], hb2, HN⟩
            case measure => simp [intOf]; omega
          · have HR : Hid (rdN s = 0 ∧ rdB s = false) := rd_none (by
              rw [← HMK.out]
              exact read_bad2 (c := T[k]) (by rw [← HT.out]; exact List.mem_of_getElem? HG.out) hd)
            by_cases h48 : (T[k].toNat : Int) < 48
            · go_wp2_with fail
              go_ret2
              exact ⟨ret_num HR.out, (by first | exact Drawn.zero _ | exact Drawn.at_ _ _ | exact (Drawn.at_ _ _).more _ | exact ((Drawn.at_ _ _).more _).more _)⟩
            · have h57 : (57 : Int) < (T[k].toNat : Int) := by unfold isDg at hd; omega
              go_wp2_with fail
              go_ret2
              exact ⟨ret_num HR.out, (by first | exact Drawn.zero _ | exact Drawn.at_ _ _ | exact (Drawn.at_ _ _).more _ | exact ((Drawn.at_ _ _).more _).more _)⟩
        · obtain rfl : k = T.size := by omega
          have HE : Hid (DvAt (tl (bs s)) (tl (bs s)).length q) := by
            show DvAt _ _ _
            rw [← HT.out]
            have := H.out
            rw [← HB.out.1] at this
            exact this
          obtain ⟨m, HM⟩ : ∃ m, Hid (sgn (bs s) q = m) := ⟨_, Lib.hid rfl⟩
          have hm : InD m := by rw [← HM.out]; unfold sgn InD; split <;> omega
          have HNUM := Lib.hid (l1NumI_any m hm)
          obtain ⟨X, HX⟩ : ∃ X, Hid (mk (Lib.itoa m) = X) := ⟨_, Lib.hid rfl⟩
          have HFIN : Hid ((X = s → rdN s = m ∧ rdB s = true) ∧ (X ≠ s → rdN s = 0 ∧ rdB s = false)) := by
            refine ⟨fun e => rd_some ?_, fun e => rd_none ?_⟩
            · have h := read_yes HE.out (by rw [← HT.out]; have := HB.out.1; omega) (by rw [HM.out]; apply mk_inj; rw [HX.out, HMK.out]; exact e)
              rw [HMK.out, HM.out] at h
              exact h
            · have h := read_bad3 HE.out (by rw [HM.out]; intro h; apply e; rw [← HX.out, h, HMK.out])
              rw [HMK.out] at h
              exact h
          have HML : Hid (m = if T.size < s.size then -(q : Int) else q) := by
            show _ = _
            rw [← HM.out]
            unfold sgn
            rw [← HT.out, HB.out.1, HB.out.2]
          clear hm
          by_cases hl : (T.size : Int) < (s.size : Int)
          · have e : m = -(q : Int) := by rw [HML.out, if_pos (by omega)]
            have hw : IntKind.i64.wrap (-(q : Int)) = -(q : Int) := IntWalk.i64_in _ (by omega)
            rw [e] at HNUM HFIN HX
            clear e HML
            go_wp2_with fail
            (try rw [hw])
            refine (HNUM.out w).mono ?_
            rintro e w1 ⟨rfl, hd⟩
            rw [HX.out]
            by_cases he : X = s
            · have hd2 : (X.toList == s.toList) = true := eqq_str (eqC_iff.2 he)
              have HR := Lib.hid (HFIN.out.1 he)
              clear he
              go_wp2_with fail
              go_ret2
              exact ⟨ret_num HR.out, hd⟩
            · have hd2 : (X.toList == s.toList) = false := eqq_str (eqC_no.2 he)
              have HR := Lib.hid (HFIN.out.2 he)
              clear he
              go_wp2_with fail
              go_ret2
              exact ⟨ret_num HR.out, hd⟩
          · have e : m = (q : Int) := by rw [HML.out, if_neg (by omega)]
            rw [e] at HNUM HFIN HX
            clear e HML
            go_wp2_with fail
            refine (HNUM.out w).mono ?_
            rintro e w1 ⟨rfl, hd⟩
            rw [HX.out]
            by_cases he : X = s
            · have hd2 : (X.toList == s.toList) = true := eqq_str (eqC_iff.2 he)
              have HR := Lib.hid (HFIN.out.1 he)
              clear he
              go_wp2_with fail
              go_ret2
              exact ⟨ret_num HR.out, hd⟩
            · have hd2 : (X.toList == s.toList) = false := eqq_str (eqC_no.2 he)
              have HR := Lib.hid (HFIN.out.2 he)
              clear he
              go_wp2_with fail
              go_ret2
              exact ⟨ret_num HR.out, hd⟩
    · have HI : Hid (inB (T.size : Int) 1 6 = false) := by
        show _ = _
        unfold inB
        rw [Bool.and_eq_false_iff, decide_eq_false_iff_not, decide_eq_false_iff_not]
        omega
      have HR : Hid (rdN s = 0 ∧ rdB s = false) := rd_none (by
        rw [← HMK.out]
        exact read_bad1 (by rw [← HT.out, HB.out.1]; exact hin))
      go_upto_region 4 with fail
      go_wp2_with (go_at_call 68; refine (l1In_any _ _ _ _).mono ?_; rintro e w' ⟨rfl, rfl⟩; rw [HI.out])
      go_ret2
      exact ⟨ret_num HR.out, (by first | exact Drawn.zero _ | exact Drawn.at_ _ _ | exact (Drawn.at_ _ _).more _ | exact ((Drawn.at_ _ _).more _).more _)⟩
set_option maxHeartbeats 1000000 in
theorem arityOf_any (m n : Nat) (w : World) (hn : n ≤ 8) : Calls Tryz.prog 82 #[.int .i64 m, .int .i64 n] w (fun e w' => e = .returned (.int .i64 (arL n m)) ∧ w = w') := by
  go_enter Tryz.func82, Tryz.ntmps82
  go_wp2_with fail
  go_loop [5] (fun i => ∃ k : Nat, k ≤ 4 ∧ i = .int .i64 k ∧ Hid (∀ j, j < k → n ^ j ≠ m)) (fun i => 4 - (intOf i).toNat)
  case atStart => exact ⟨0, Nat.zero_le _, rfl, Lib.hid (fun j hj => absurd hj (Nat.not_lt_zero _))⟩
  case round =>
    obtain ⟨k, hk, rfl, H⟩ := hrel
    by_cases h4 : k < 4
    · have h3 : (k : Int) ≤ 3 := by omega
      obtain ⟨r, HR⟩ : ∃ r, Hid (n ^ k = r) := ⟨_, Lib.hid rfl⟩
      have hr := HR.out
      have HC := Lib.hid (power_any n k r w hr hn (by omega))
      clear hr
      by_cases he : r = m
      · have HA : Hid (((k : Nat) : Int) = arL n m) := by
          show _ = _
          have hs := H.out
          have e := HR.out.trans he
          unfold arL
          obtain rfl | rfl | rfl | rfl : k = 0 ∨ k = 1 ∨ k = 2 ∨ k = 3 := by omega
          · rw [if_pos e]; rfl
          · rw [if_neg (hs 0 (by omega)), if_pos e]; rfl
          · rw [if_neg (hs 0 (by omega)), if_neg (hs 1 (by omega)), if_pos e]; rfl
          · rw [if_neg (hs 0 (by omega)), if_neg (hs 1 (by omega)), if_neg (hs 2 (by omega)), if_pos e]; rfl
        have hb : ((r : Int) == (m : Int)) = true := by rw [beq_iff_eq]; omega
        clear he
        go_wp2_with (go_at_call 141; refine HC.out.mono ?_; rintro e w' ⟨rfl, rfl⟩)
        go_ret
        exact ⟨ret_int HA.out, rfl⟩
      · have HS : Hid (∀ j, j < k + 1 → n ^ j ≠ m) := fun j hj => by
          rcases Nat.lt_or_ge j k with h | h
          · exact H.out j h
          · obtain rfl : j = k := by omega
            rw [HR.out]
            exact he
        have hb : ((r : Int) == (m : Int)) = false := by rw [beq_eq_false_iff_ne]; omega
        clear he
        go_wp2_with (go_at_call 141; refine HC.out.mono ?_; rintro e w' ⟨rfl, rfl⟩)
        go_round
        case rel => exact ⟨k + 1, by omega, by go_num, HS⟩
        case measure => simp [intOf]; omega
    · obtain rfl : k = 4 := by omega
      have HA : Hid ((-1 : Int) = arL n m) := by
        show _ = _
        have hs := H.out
        unfold arL
        rw [if_neg (hs 0 (by omega)), if_neg (hs 1 (by omega)), if_neg (hs 2 (by omega)), if_neg (hs 3 (by omega))]
      go_wp2_with fail
      go_ret
      exact ⟨ret_int HA.out, rfl⟩
end Go.Proofs.YtfnmkbpogbekpaaGreatDoor
namespace Go.Proofs.YtfnmkbpogbekpaaGreatDoor
open Go.RowKit
set_option linter.unusedVariables false
set_option linter.unusedSimpArgs false

theorem joinB_snoc (sep t : Bs) {l : List Bs} (h : l ≠ []) : joinB sep (l ++ [t]) = joinB sep l ++ (sep ++ t) := by
  rcases l with _ | ⟨u, l⟩
  · exact absurd rfl h
  · rw [List.cons_append, joinB_cons, joinB_cons, sepB_snoc, List.append_assoc]
theorem wsT_snoc {V : List Int} {k : Nat} {v : Int} (h : V[k]? = some v) : wsT (V.take (k + 1)) = wsT (V.take k) ++ [Lib.itoa v] := by
  rw [List.take_add_one, h]
  simp [wsT]
theorem sepB_len {sep : Bs} {m : Nat} : ∀ {l : List Bs}, (∀ t ∈ l, t.length ≤ m) → (sepB sep l).length ≤ l.length * (sep.length + m)
  | [], _ => by simp [sepB]
  | t :: l, h => by
    have ih := sepB_len (sep := sep) fun t' ht => h t' (List.mem_cons_of_mem _ ht)
    have h1 := h t (List.mem_cons_self ..)
    have e : sepB sep (t :: l) = (sep ++ t) ++ sepB sep l := by simp [sepB]
    rw [e, List.length_append, List.length_append, List.length_cons, Nat.succ_mul]
    omega
theorem joinB_len {sep : Bs} {m : Nat} {l : List Bs} (h : ∀ t ∈ l, t.length ≤ m) : (joinB sep l).length ≤ l.length * (sep.length + m) := by
  rcases l with _ | ⟨t, l⟩
  · simp [joinB]
  · have h1 := h t (List.mem_cons_self ..)
    have h2 := sepB_len (sep := sep) fun t' ht => h t' (List.mem_cons_of_mem _ ht)
    rw [joinB_cons, List.length_append, List.length_cons, Nat.succ_mul]
    omega
theorem wsT_le {V : List Int} (h : ∀ v ∈ V, InD v) : ∀ t ∈ wsT V, t.length ≤ 7 := fun t ht => by
  obtain ⟨v, hv, rfl⟩ := List.mem_map.1 ht
  exact itoa_len (h v hv)
set_option maxHeartbeats 4000000 in
theorem writeList_any (b : Nat) (l : Bs) (A : Option Addr) (n c : Nat) (V : List Int) (sep : ByteArray) (w : World) (h : Bd w b l) (hV : ∀ wz, Below b w wz → RdL RI wz A n V) (hD : ∀ v ∈ V, InD v) (ht : ∀ wz, Below b w wz → Tab wz) (hn : n ≤ 1000) (hs : sep.size ≤ 10) (hl : l.length ≤ 900000000) :
    Calls Tryz.prog 144 #[.pointer (some ⟨b, 0, none⟩), .slice A n c, .string sep] w fun e w' => e = .returned (.tuple #[]) ∧ Bd w' b (l ++ joinB (bs sep) (wsT V)) ∧ Kb b w w' := by
  have HV := Lib.hid hV
  have HD := Lib.hid hD
  have HTB := Lib.hid ht
  have hlen : V.length = n := (hV w (Below.refl _ _)).len
  have HLN := Lib.hid hlen
  have HB0 : Hid (Bd w b (l ++ joinB (bs sep) (wsT (V.take 0)))) := by show Bd _ _ _; rw [List.take_zero]; simpa [wsT, joinB] using h
  have HPL : Hid (∀ k, k ≤ n → (l ++ joinB (bs sep) (wsT (V.take k))).length ≤ 900017000) := fun k hk => by
    have h1 := joinB_len (sep := bs sep) (wsT_le (V := V.take k) fun v hv => hD v (List.mem_of_mem_take hv))
    rw [wsT_len, List.length_take] at h1
    have h2 : min k V.length * ((bs sep).length + 7) ≤ 1000 * 17 := Nat.mul_le_mul (by omega) (by show sep.size + 7 ≤ 17; omega)
    rw [List.length_append]
    omega
  clear hV hD ht hlen h
  go_enter Tryz.func144, Tryz.ntmps144
  go_wp2_with fail
  go_loopw [10] (fun i wr => ∃ k : Nat, k ≤ n ∧ i = .int .i64 (k : Int) ∧ Bd wr b (l ++ joinB (bs sep) (wsT (V.take k))) ∧ Kb b w wr) (fun i _ => n - (intOf i).toNat)
  case atStart => exact ⟨0, Nat.zero_le _, rfl, HB0.out, Kb.refl _ _⟩
  case round =>
    clear HB0
    obtain ⟨k, hk, rfl, hBk, hKk⟩ := hrel
    by_cases hlt : k < n
    · have hk0 : (0 : Int) ≤ (k : Int) := by omega
      have hk1 : (k : Int) < (n : Int) := by omega
      obtain ⟨bb, o, u, v, rfl, hc, ⟨rfl, hv0, hv1⟩, -, hxv⟩ := (HV.out wr hKk.1).at hlt
      have hdv := HD.out v (List.mem_of_getElem? hxv)
      have HST := Lib.hid (wsT_snoc hxv)
      obtain ⟨Nm, HN⟩ : ∃ s, Hid (mk (Lib.itoa v) = s) := ⟨_, rfl⟩
      have zN : Nm.size ≤ 7 := by rw [← HN.out]; exact itoa_len hdv
      have hBN : bs Nm = Lib.itoa v := by rw [← HN.out]; rfl
      have HBN := Lib.hid hBN
      have HI : Hid (∀ wz, Below b w wz → Calls Tryz.prog 143 #[.int .i64 v] wz (Bl wz (.string Nm))) := fun wz hz => by
        have := itoaI_any v hdv wz (HTB.out wz hz)
        rwa [HN.out] at this
      obtain ⟨P, HP⟩ : ∃ P, Hid (l ++ joinB (bs sep) (wsT (V.take k)) = P) := ⟨_, rfl⟩
      have hpl := HPL.out k hk
      rw [HP.out] at hBk hpl
      by_cases hz : k = 0
      · have HNX : Hid (l ++ joinB (bs sep) (wsT (V.take (k + 1))) = P ++ bs Nm) := by
          show _ = _
          rw [HST.out, HBN.out, ← HP.out, hz]
          simp [wsT, joinB]
        have hz0 : ¬ (0 : Int) < (k : Int) := by omega
        clear hBN hz hxv
        go_wp2_with fail
        refine (HI.out wr hKk.1).mono ?_
        rintro e w1 ⟨rfl, hb1⟩
        have hB1 := hBk.next hb1
        have hK1 := hKk.trans (kb_next hBk.lt hb1)
        have HW := Lib.hid (writeString_any b P Nm w1 hB1 (by omega))
        go_wp2_with fail
        refine HW.out.mono ?_
        rintro e w2 ⟨rfl, hB2, hK2⟩
        go_wp2_with fail
        go_roundw
        case rel => exact ⟨k + 1, by omega, by go_num, by rw [HNX.out]; exact hB2, hK1.trans hK2⟩
        case measure => simp [intOf]; omega
      · have HNX : Hid (l ++ joinB (bs sep) (wsT (V.take (k + 1))) = (P ++ bs sep) ++ bs Nm) := by
          show _ = _
          have hne : wsT (V.take k) ≠ [] := fun e => by
            have := congrArg List.length e
            rw [wsT_len, List.length_take, HLN.out] at this
            simp at this
            omega
          rw [HST.out, HBN.out, ← HP.out, joinB_snoc _ _ hne]
          simp [List.append_assoc]
        have hz0 : (0 : Int) < (k : Int) := by omega
        have HW0 := Lib.hid (writeString_any b P sep wr hBk (by omega))
        have hsl : (bs sep).length = sep.size := rfl
        clear hBN hz hxv
        go_wp2_with fail
        refine HW0.out.mono ?_
        rintro e w0 ⟨rfl, hB0, hK0⟩
        have hK0' := hKk.trans hK0
        go_wp2_with fail
        refine (HI.out w0 hK0'.1).mono ?_
        rintro e w1 ⟨rfl, hb1⟩
        have hB1 := hB0.next hb1
        have hK1 := hK0'.trans (kb_next hB0.lt hb1)
        have HW := Lib.hid (writeString_any b (P ++ bs sep) Nm w1 hB1 (by rw [List.length_append, hsl]; omega))
        go_wp2_with fail
        refine HW.out.mono ?_
        rintro e w2 ⟨rfl, hB2, hK2⟩
        go_wp2_with fail
        go_roundw
        case rel => exact ⟨k + 1, by omega, by go_num, by rw [HNX.out]; exact hB2, hK1.trans hK2⟩
        case measure => simp [intOf]; omega
    · obtain rfl : k = n := by omega
      have HE : Hid (V.take k = V) := List.take_of_length_le (by rw [HLN.out]; exact Nat.le_refl _)
      rw [HE.out] at hBk
      have HBk := Lib.hid hBk
      clear hBk
      go_wp2_with fail
      go_end0
      exact ⟨rfl, HBk.out, hKk⟩
end Go.Proofs.YtfnmkbpogbekpaaGreatDoor
namespace Go.Proofs.YtfnmkbpogbekpaaGreatDoor
open Go.RowKit
theorem txA_take {x : AlgebraM} {k : Nat} {o : OpM} (h : x.2[k]? = some o) : Lib.itoa x.1 ++ sepB [59, 32] ((x.2.take (k + 1)).map fun o => joinB [32] (wsT o.2)) = (Lib.itoa x.1 ++ sepB [59, 32] ((x.2.take k).map fun o => joinB [32] (wsT o.2)) ++ [59, 32]) ++ joinB [32] (wsT o.2) := by
  rw [List.take_add_one, h]
  simp [sepB, List.append_assoc]
theorem AlgP.inD {x : AlgebraM} (h : AlgP x) : InD x.1 ∧ ∀ o ∈ x.2, o.2.length ≤ 512 ∧ ∀ v ∈ o.2, InD v := by
  obtain ⟨h1, h2, h3, h4⟩ := h
  refine ⟨by unfold InD; omega, fun o ho => ⟨?_, fun v hv => ?_⟩⟩
  · obtain ⟨a0, a1, hl, -⟩ := h4 o ho
    rw [hl]
    have e1 : x.1.toNat ^ o.1.toNat ≤ 8 ^ o.1.toNat := Nat.pow_le_pow_left (by omega) _
    have e2 : 8 ^ o.1.toNat ≤ 8 ^ 3 := Nat.pow_le_pow_right (by decide) (by omega)
    omega
  · have := (h4 o ho).2.2.2 v hv
    unfold InD
    omega
theorem txA_len {x : AlgebraM} (h : AlgP x) (k : Nat) : (Lib.itoa x.1 ++ sepB [59, 32] ((x.2.take k).map fun o => joinB [32] (wsT o.2))).length ≤ 100000 := by
  have hd := h.inD
  have h1 := itoa_len hd.1
  have h2 : ∀ t ∈ (x.2.take k).map fun o => joinB [32] (wsT o.2), t.length ≤ 4096 := fun t ht => by
    obtain ⟨o, ho, rfl⟩ := List.mem_map.1 ht
    have h3 := hd.2 o (List.mem_of_mem_take ho)
    have h4 := joinB_len (sep := [32]) (wsT_le h3.2)
    rw [wsT_len] at h4
    have h5 : o.2.length * (([32] : Bs).length + 7) ≤ 512 * 8 := Nat.mul_le_mul h3.1 (Nat.le_refl _)
    omega
  have h3 := sepB_len (sep := [59, 32]) h2
  rw [List.length_map, List.length_take] at h3
  have h4 : min k x.2.length * (([59, 32] : Bs).length + 4096) ≤ 4 * 4098 := Nat.mul_le_mul (by have := h.2.2.1; omega) (Nat.le_refl _)
  rw [List.length_append]
  omega
set_option maxRecDepth 20000 in
set_option maxHeartbeats 8000000 in
theorem algebraText_any (cs : List Value) (x : AlgebraM) (w : World) (h : shAlgebra.rd w cs x) (hx : AlgP x) (ht : Tab w) : Calls Tryz.prog 83 #[.agg cs.toArray] w (Bl w (.string (mk (txA x)))) := by
  have hrd := h
  obtain ⟨B, n, d, rfl, -, qo⟩ := rdAlgebra h
  have hle := qo.le
  have HLN := Lib.hid qo.len
  have HD := Lib.hid hx.inD
  obtain ⟨w0, hw0, T0, hsz0, BP⟩ := boxes1 w #[.int .i64 x.1, .slice B n d] 24
  obtain ⟨w1, hw1⟩ : ∃ wb, wb = w0.alloc (.cells #[.pointer none, .slice none 0 0] 166) := ⟨_, rfl⟩
  have hb01 : Below w0.heap.size w0 w1 := by rw [hw1]; exact below_box _ _
  have T1 := below_next T0 hb01 rfl
  have hB1 : Bd w1 w0.heap.size [] := by rw [hw1]; exact Bd.new _
  have hs0 : w0.heap.size = w.heap.size + 1 := hsz0
  rw [hs0] at hB1
  have cP0 := (BP.next hb01).cell 0
  have cP1 := (BP.next hb01).cell 1
  simp at cP0 cP1
  have HW : Hid (w1 = (w.alloc (.cells #[.int .i64 x.1, .slice B n d] 24)).alloc (.cells #[.pointer none, .slice none 0 0] 166)) := by show _ = _; rw [hw1, hw0]
  have HUP : Hid (∀ wz, Below (w.heap.size + 1) w1 wz → Below w0.heap.size w0 wz) := fun wz hz => by rw [← hs0] at hz; exact hb01.trans hz
  have HQ0 := Lib.hid (qo.next T0)
  have HTB : Hid (∀ wz, Below (w.heap.size + 1) w1 wz → Tab wz) := fun wz hz => (ht.next T0).next (HUP.out wz hz)
  have hbw : w.heap.size + 1 ≤ w1.heap.size := by have := hB1.lt; omega
  have hp0 : w.heap.size < w.heap.size + 1 := by omega
  have HFIN : Hid (∀ wz, Below (w.heap.size + 1) w1 wz → Below w.heap.size w wz) := fun wz hz => below_next T0 (HUP.out wz hz) rfl
  obtain ⟨S, HS⟩ : ∃ s, Hid (mk (Lib.itoa x.1) = s) := ⟨_, rfl⟩
  have zS : S.size ≤ 7 := by rw [← HS.out]; exact itoa_len hx.inD.1
  have HI : Hid (Calls Tryz.prog 143 #[.int .i64 x.1] w1 (Bl w1 (.string S))) := by
    have := itoaI_any x.1 hx.inD.1 w1 (HTB.out w1 (Below.refl _ _))
    rwa [HS.out] at this
  have HPX : Hid (bs S = Lib.itoa x.1) := by show _ = _; rw [← HS.out]; rfl
  have HLT : Hid (∀ k, (Lib.itoa x.1 ++ sepB [59, 32] ((x.2.take k).map fun o => joinB [32] (wsT o.2))).length ≤ 100000) := txA_len hx
  have HE : Hid (∀ k, x.2.length ≤ k → Lib.itoa x.1 ++ sepB [59, 32] ((x.2.take k).map fun o => joinB [32] (wsT o.2)) = txA x) := fun k hk => by rw [List.take_of_length_le hk]; rfl
  have HST : Hid (∀ k o, x.2[k]? = some o → Lib.itoa x.1 ++ sepB [59, 32] ((x.2.take (k + 1)).map fun o => joinB [32] (wsT o.2)) = (Lib.itoa x.1 ++ sepB [59, 32] ((x.2.take k).map fun o => joinB [32] (wsT o.2)) ++ [59, 32]) ++ joinB [32] (wsT o.2)) := fun k o h => txA_take h
  obtain ⟨F, HF⟩ : ∃ F : Nat → Bs, Hid (∀ k, Lib.itoa x.1 ++ sepB [59, 32] ((x.2.take k).map fun o => joinB [32] (wsT o.2)) = F k) := ⟨fun k => _, Lib.hid fun k => rfl⟩
  replace HLT : Hid (∀ k, (F k).length ≤ 100000) := fun k => by rw [← HF.out]; exact HLT.out k
  replace HE : Hid (∀ k, x.2.length ≤ k → F k = txA x) := fun k hk => by rw [← HF.out]; exact HE.out k hk
  replace HST : Hid (∀ k o, x.2[k]? = some o → F (k + 1) = (F k ++ [59, 32]) ++ joinB [32] (wsT o.2)) := fun k o h => by rw [← HF.out, ← HF.out]; exact HST.out k o h
  have HF0 : Hid (F 0 = bs S) := by show _ = _; rw [← HF.out, HPX.out, List.take_zero]; simp [sepB]
  clear hw0 hw1 hsz0 hrd h qo ht T0 hb01 T1 hs0 BP hx
  go_enter Tryz.func83, Tryz.ntmps83
  go_upto_region 2 with fail
  rw [← HW.out]
  go_wp2_with fail
  refine HI.out.mono ?_
  rintro e w2 ⟨rfl, hb2⟩
  have hB2 := hB1.next hb2
  have T2 := belowB_next (Below.refl _ _) hb2 hbw
  have HWS := Lib.hid (writeString_any _ _ S w2 hB2 (by simp; omega))
  go_wp2_with fail
  refine HWS.out.mono ?_
  rintro e w3 ⟨rfl, hB3, hk3⟩
  have T3 := T2.trans hk3.1
  have hB3' : Bd w3 (w.heap.size + 1) (F 0) := by rw [HF0.out]; simpa using hB3
  have dP1 := keepB T3 hp0 cP1
  clear HWS hB3
  go_wp2_with fail
  go_loopw [13] (fun i wr => ∃ q : Nat, q ≤ n ∧ i = .int .i64 (q : Int) ∧ Bd wr (w.heap.size + 1) (F q) ∧ Below (w.heap.size + 1) w1 wr) (fun i _ => n - (intOf i).toNat)
  case atStart => exact ⟨0, Nat.zero_le _, rfl, hB3', T3⟩
  case round =>
    clear hB3' T3 dP1
    obtain ⟨q, hq, rfl, hBq, hTq⟩ := hrel
    have hbl := hBq.lt
    have hlf := HLT.out q
    by_cases hlt : q < n
    · have hq0 : (0 : Int) ≤ (q : Int) := by omega
      have hq1 : (q : Int) < (n : Int) := by omega
      obtain ⟨bb, o, vs, y, rfl, -, hc, hr, -, hxg⟩ := HQ0.out.at hlt
      obtain ⟨Bm, m, dm, rfl, qa, qt⟩ := rdOp hr
      have cc0 : wr.cell? ⟨bb, o + q * 2, none⟩ = some (.int .i64 y.1) := keepc (HUP.out wr hTq) (hc 0 _ rfl)
      have cc1 : wr.cell? ⟨bb, o + q * 2 + 1, none⟩ = some (.slice Bm m dm) := keepc (HUP.out wr hTq) (hc 1 _ rfl)
      have HN := Lib.hid (HST.out q y hxg)
      have hyd := HD.out.2 y (List.mem_of_getElem? hxg)
      have hm : m ≤ 512 := by rw [← qt.len]; exact hyd.1
      have HYD := Lib.hid hyd.2
      have HRT : Hid (∀ wz, Below (w.heap.size + 1) wr wz → RdL RI wz Bm m y.2) := fun wz hz => qt.next stab_RI (HUP.out wz (hTq.trans hz))
      obtain ⟨w5, hw5, T5, hsz5, BX⟩ := boxes1 wr #[.int .i64 y.1, .slice Bm m dm] 122
      have HW5 := Lib.hid hw5
      have T25 := belowB_next hTq T5 (Nat.le_of_lt hbl)
      have hB5 := hBq.next T5
      have HWS := Lib.hid (writeString_any _ _ ⟨#[59, 32]⟩ w5 hB5 (by show _ + 2 ≤ _; omega))
      have hX0 : wr.heap.size ≠ w.heap.size + 1 := by omega
      have dP1 := keepB T25 hp0 cP1
      clear hc hr hxg hw5 hyd qt
      go_upto_region 6 with fail
      rw [← HW5.out]
      go_wp2_with fail
      refine HWS.out.mono ?_
      rintro e w6 ⟨rfl, hB6, hk6⟩
      have BX6 := hk6.blk BX hX0 (by decide)
      have cX1 := BX6.cell 1
      simp at cX1
      have T6 := (belowB_next (Below.refl _ _) T5 (Nat.le_of_lt hbl)).trans hk6.1
      have T16 := hTq.trans T6
      have hB6' : Bd w6 (w.heap.size + 1) (F q ++ [59, 32]) := hB6
      have HWL := Lib.hid (writeList_any _ _ Bm m dm y.2 ⟨#[32]⟩ w6 hB6' (fun wz hz => HRT.out wz (T6.trans hz)) HYD.out (fun wz hz => HTB.out wz (T16.trans hz)) (by omega) (by decide) (by rw [List.length_append]; show _ + 2 ≤ _; omega))
      clear HWS hB6 hB5
      go_wp2_with fail
      refine HWL.out.mono ?_
      rintro e w7 ⟨rfl, hB7, hk7⟩
      go_wp2_with fail
      go_roundw
      case rel => exact ⟨q + 1, by omega, by go_num, by rw [HN.out]; exact hB7, T16.trans hk7.1⟩
      case measure => simp [intOf]; try omega
    · obtain rfl : q = n := by omega
      have hq1 : ¬ (q : Int) < (q : Int) := by omega
      rw [HE.out q (by rw [HLN.out]; exact Nat.le_refl _)] at hBq
      have HSX := Lib.hid (string_any _ _ wr hBq)
      go_wp2_with fail
      refine HSX.out.mono ?_
      rintro e w8 ⟨rfl, hb8⟩
      go_wp2_with fail
      go_ret
      exact ⟨rfl, HFIN.out _ (hTq.trans hb8)⟩
end Go.Proofs.YtfnmkbpogbekpaaGreatDoor
namespace Go.Proofs.YtfnmkbpogbekpaaGreatDoor
open Go.RowKit
set_option linter.unusedVariables false
set_option linter.unusedSimpArgs false

theorem txR_take {x : AlgebraM} {k : Nat} {o : OpM} (h : x.2[k]? = some o) : Lib.itoa x.1 ++ sepB [59] ((x.2.take (k + 1)).map fun o => sepB [32] (wsT o.2)) = (Lib.itoa x.1 ++ sepB [59] ((x.2.take k).map fun o => sepB [32] (wsT o.2)) ++ [59]) ++ sepB [32] (wsT o.2) := by
  rw [List.take_add_one, h]
  simp [sepB, List.append_assoc]
theorem txR_len {x : AlgebraM} (h : AlgP x) (k : Nat) : (Lib.itoa x.1 ++ sepB [59] ((x.2.take k).map fun o => sepB [32] (wsT o.2))).length ≤ 100000 := by
  have hd := h.inD
  have h1 := itoa_len hd.1
  have h2 : ∀ t ∈ (x.2.take k).map fun o => sepB [32] (wsT o.2), t.length ≤ 4096 := fun t ht => by
    obtain ⟨o, ho, rfl⟩ := List.mem_map.1 ht
    have h3 := hd.2 o (List.mem_of_mem_take ho)
    have h4 := sepB_len (sep := [32]) (wsT_le h3.2)
    rw [wsT_len] at h4
    have h5 : o.2.length * (([32] : Bs).length + 7) ≤ 512 * 8 := Nat.mul_le_mul h3.1 (Nat.le_refl _)
    omega
  have h3 := sepB_len (sep := [59]) h2
  rw [List.length_map, List.length_take] at h3
  have h4 : min k x.2.length * (([59] : Bs).length + 4096) ≤ 4 * 4097 := Nat.mul_le_mul (by have := h.2.2.1; omega) (Nat.le_refl _)
  rw [List.length_append]
  omega
theorem catb {a b : ByteArray} {n m : Nat} (ha : a.size ≤ n) (hb : b.size ≤ m) (h : n + m ≤ 1000000) : ∃ s, bs s = bs a ++ bs b ∧ Hid (a ++ b = s) ∧ (∀ w, (Op.stringOp .add a b).run Tryz.prog w = .ok (.string s) w) ∧ s.size ≤ n + m :=
  ⟨a ++ b, bs_app a b, rfl, cat a b (by omega), by rw [size_app]; omega⟩
set_option maxRecDepth 20000 in
set_option maxHeartbeats 8000000 in
theorem l2Text_any (cs : List Value) (x : AlgebraM) (w : World) (h : shAlgebra.rd w cs x) (hx : AlgP x) : Calls Tryz.prog 97 #[.agg cs.toArray] w (Bl w (.string (mk (txA x)))) := by
  have hrd := h
  obtain ⟨B, n, d, rfl, -, qo⟩ := rdAlgebra h
  have hle := qo.le
  have HLN := Lib.hid qo.len
  have HD := Lib.hid hx.inD
  have HTX := Lib.hid (tx_same hx)
  obtain ⟨w0, hw0, T0, hsz0, BP⟩ := boxes1 w #[.int .i64 x.1, .slice B n d] 24
  have HW := Lib.hid hw0
  have cP0 := BP.cell 0
  have cP1 := BP.cell 1
  simp at cP0 cP1
  have HQ0 := Lib.hid (qo.next T0)
  have HT0 := Lib.hid T0
  have HNUM : Hid (∀ v, InD v → ∀ wz, Calls Tryz.prog 156 #[.int .i64 v] wz (Qt wz (.string (mk (Lib.itoa v))))) := fun v hv wz => l1NumI_any v hv wz
  obtain ⟨S, HS⟩ : ∃ s, Hid (mk (Lib.itoa x.1) = s) := ⟨_, rfl⟩
  have zS : S.size ≤ 7 := by rw [← HS.out]; exact itoa_len hx.inD.1
  have HPX : Hid (bs S = Lib.itoa x.1) := by show _ = _; rw [← HS.out]; rfl
  obtain ⟨F, HF⟩ : ∃ F : Nat → Bs, Hid (∀ k, Lib.itoa x.1 ++ sepB [59] ((x.2.take k).map fun o => sepB [32] (wsT o.2)) = F k) := ⟨fun k => _, Lib.hid fun k => rfl⟩
  have HLT : Hid (∀ k, (F k).length ≤ 100000) := fun k => by rw [← HF.out]; exact txR_len hx k
  have HE : Hid (∀ k, x.2.length ≤ k → F k = txR x) := fun k hk => by rw [← HF.out, List.take_of_length_le hk]; rfl
  have HST : Hid (∀ k o, x.2[k]? = some o → F (k + 1) = (F k ++ [59]) ++ sepB [32] (wsT o.2)) := fun k o h => by rw [← HF.out, ← HF.out]; exact txR_take h
  have HF0 : Hid (bs S = F 0) := by show _ = _; rw [← HF.out, HPX.out, List.take_zero]; simp [sepB]
  have HI : Hid (Calls Tryz.prog 156 #[.int .i64 x.1] w0 (Qt w0 (.string S))) := by
    have := l1NumI_any x.1 hx.inD.1 w0
    rwa [HS.out] at this
  rw [← HTX.out]
  clear hw0 hsz0 hrd h qo T0 BP hx
  go_enter Tryz.func97, Tryz.ntmps97
  go_upto_region 1 with fail
  rw [← HW.out]
  go_wp2_with fail
  refine HI.out.mono ?_
  rintro e w1 ⟨rfl, hd1⟩
  have hb1 : Below w0.heap.size w0 w1 := by obtain ⟨z, rfl⟩ := hd1; exact below_drewN (Below.refl _ _) _
  go_wp2_with fail
  go_loopw [3, 4] (fun t i wr => ∃ (q : Nat) (T : ByteArray), q ≤ n ∧ i = .int .i64 (q : Int) ∧ t = .string T ∧ Hid (bs T = F q) ∧ Below w0.heap.size w0 wr) (fun _ i _ => n - (intOf i).toNat)
  case atStart => exact ⟨0, S, Nat.zero_le _, rfl, rfl, HF0, hb1⟩
  case round =>
    obtain ⟨q, T, hq, rfl, rfl, HTQ, hTq⟩ := hrel
    have cP1q := keepc hTq cP1
    have zT : T.size ≤ 100000 := by have := HLT.out q; rw [← HTQ.out] at this; exact this
    by_cases hlt : q < n
    · have hq0 : (0 : Int) ≤ (q : Int) := by omega
      have hq1 : (q : Int) < (n : Int) := by omega
      obtain ⟨bb, o, vs, y, rfl, -, hc, hr, -, hxg⟩ := HQ0.out.at hlt
      obtain ⟨Bm, m, dm, rfl, qa, qt⟩ := rdOp hr
      have c0 : w0.cell? ⟨bb, o + q * 2 + 1, none⟩ = some (.slice Bm m dm) := hc 1 _ rfl
      have HN := Lib.hid (HST.out q y hxg)
      have hyd := HD.out.2 y (List.mem_of_getElem? hxg)
      have hm : m ≤ 512 := by rw [← qt.len]; exact hyd.1
      have HYL := Lib.hid qt.len
      have HYD := Lib.hid hyd.2
      have HRT : Hid (∀ wz, Below w0.heap.size w0 wz → RdL RI wz Bm m y.2) := fun wz hz => qt.next stab_RI hz
      obtain ⟨T1, hT1, HT1, k1, z1⟩ := catb (b := ⟨#[59]⟩) zT (show _ ≤ 1 by decide) (by decide)
      have HB1 : Hid (bs T1 = F q ++ [59] ++ sepB [32] (wsT (y.2.take 0))) := by show _ = _; rw [hT1, HTQ.out, List.take_zero]; simp [wsT, sepB]; rfl
      clear hc hr hxg hyd qt hT1
      go_wp2_with fail
      obtain ⟨wo, rfl⟩ : ∃ x : World, x = wr := ⟨_, rfl⟩
      go_loopw [3, 5] (fun t i wz => ∃ (j : Nat) (U : ByteArray), j ≤ m ∧ i = .int .i64 (j : Int) ∧ t = .string U ∧ Hid (bs U = F q ++ [59] ++ sepB [32] (wsT (y.2.take j))) ∧ U.size ≤ 200000 ∧ Below w0.heap.size w0 wz) (fun _ i _ => m - (intOf i).toNat)
      case atStart => exact ⟨0, T1, Nat.zero_le _, rfl, rfl, HB1, by omega, hTq⟩
      case round =>
        obtain ⟨j, U, hj, rfl, rfl, HU, zU, hTj⟩ := hrel
        have cP1j := keepc hTj cP1
        have c1 := keepc hTj c0
        by_cases hjl : j < m
        · have hj0 : (0 : Int) ≤ (j : Int) := by omega
          have hj1 : (j : Int) < (m : Int) := by omega
          obtain ⟨b2, o2, u, v, rfl, hcv, ⟨rfl, hv0, hv1⟩, -, hxv⟩ := (HRT.out wr hTj).at hjl
          have hdv := HYD.out v (List.mem_of_getElem? hxv)
          have HST2 := Lib.hid (wsT_snoc hxv)
          obtain ⟨Nm, HNm⟩ : ∃ s, Hid (mk (Lib.itoa v) = s) := ⟨_, rfl⟩
          have zN : Nm.size ≤ 7 := by rw [← HNm.out]; exact itoa_len hdv
          have hBN : bs Nm = Lib.itoa v := by rw [← HNm.out]; rfl
          have HI2 : Hid (Calls Tryz.prog 156 #[.int .i64 v] wr (Qt wr (.string Nm))) := by
            have := HNUM.out v hdv wr
            rwa [HNm.out] at this
          have hUL : (bs U).length ≤ 105000 := by
            rw [HU.out, List.length_append, List.length_append]
            have h1 := HLT.out q
            have h2 := sepB_len (sep := [32]) (wsT_le (V := y.2.take j) fun v' hv' => HYD.out v' (List.mem_of_mem_take hv'))
            rw [wsT_len, List.length_take] at h2
            have h3 : min j y.2.length * (([32] : Bs).length + 7) ≤ 512 * 8 := Nat.mul_le_mul (by omega) (Nat.le_refl _)
            simp only [List.length_singleton]
            omega
          have zU' : U.size ≤ 105000 := hUL
          obtain ⟨U1, hU1, HU1, k2, z2⟩ := catb (b := ⟨#[32]⟩) zU' (show _ ≤ 1 by decide) (by decide)
          obtain ⟨U2, hU2, HU2, k3, z3⟩ := catb z2 zN (by decide)
          have HB2 : Hid (bs U2 = F q ++ [59] ++ sepB [32] (wsT (y.2.take (j + 1)))) := by
            show _ = _
            rw [hU2, hU1, HU.out, hBN, HST2.out, sepB_snoc]
            simp [List.append_assoc]
            rfl
          clear hU1 hU2 hBN hxv hUL
          go_wp2_with fail
          refine HI2.out.mono ?_
          rintro e w3 ⟨rfl, hd3⟩
          have hb3 : Below wr.heap.size wr w3 := by obtain ⟨z, rfl⟩ := hd3; exact below_drewN (Below.refl _ _) _
          have hT3 := below_next hTj hb3 rfl
          go_wp2_with fail
          go_roundw
          case rel => exact ⟨j + 1, _, by omega, by go_num, rfl, HB2, by omega, hT3⟩
          case measure => simp [intOf]; omega
        · obtain rfl : j = m := by omega
          have hj1 : ¬ (j : Int) < (j : Int) := by omega
          have HB3 : Hid (bs U = F (q + 1)) := by show _ = _; rw [HU.out, HN.out, List.take_of_length_le (by rw [HYL.out]; exact Nat.le_refl _)]
          obtain ⟨wi, rfl⟩ : ∃ x : World, x = wr := ⟨_, rfl⟩
          go_wp2_with fail
          go_roundw
          case rel => exact ⟨q + 1, U, by omega, by go_num, rfl, HB3, hTj⟩
          case measure => simp [intOf]; omega
    · obtain rfl : q = n := by omega
      have hq1 : ¬ (q : Int) < (q : Int) := by omega
      have HEE : Hid (T = mk (txR x)) := by show _ = _; rw [← HE.out q (by rw [HLN.out]; exact Nat.le_refl _), ← HTQ.out]; exact (mk_of T).symm
      go_wp2_with fail
      go_ret
      exact ⟨ret_str HEE.out, below_next HT0.out hTq rfl⟩
end Go.Proofs.YtfnmkbpogbekpaaGreatDoor
namespace Go.Proofs.YtfnmkbpogbekpaaGreatDoor
open Go.RowKit

/-- append of one element of two cells to a row of the call's own. -/
theorem wp_app2 {P : Program} (w0 : World) {o : Oper} {a : Act} {K : Act → World → Prop} {Q : Exit → Act → World → Prop} (s x : Operand) (t e : TypeId)
    (ho : o.op = .call { callee := .builtin .append, args := #[s, x], argTypes := #[t, t] }) (z : Value) (bytes : Nat)
    (ht : P.underlying t = some (.slice e)) (hi : (P.info? e).map (fun i => (i.zero, i.size, i.bytes)) = some (some z, 2, bytes)) (hzs : z.cells.size = 2) (hbb : bytes ≤ 64)
    (base n c : Nat) (A : Option Addr) (xs : List Value) (hs : a.eval s = .slice A n c) (hown : w0.ownsRow base e 2 (.slice A n c) n xs) (u v : Value) (h1 : u.oneCell' = true) (h2 : v.oneCell' = true) (hx : a.eval x = .slice (some ⟨w0.heap.size, 0, none⟩) 1 1)
    (hn : n ≤ 1099511627776) (hbase : base ≤ w0.heap.size)
    (hK : ∀ A' c' w', w'.ownsRow base e 2 (.slice A' (n + 1) c') (n + 1) (xs ++ [u, v]) → w0.grownBy w' (Value.slice A n c).ownBlock → Below base w0 w' → K (a.put o.dst (.slice A' (n + 1) c')) w') :
    o.wp P a (w0.alloc (.cells #[u, v] e)) K Q := by
  obtain ⟨i, hi, hz, hsize, hby⟩ := info_parts hi
  have hbound : (n + 1) * bytes ≤ 140737488355328 := Nat.le_trans (Nat.mul_le_mul_left (n + 1) hbb) (by omega)
  refine wp_append_own (w0.alloc (.cells #[u, v] e)) s x t ho base e i z 2 bytes ht hi hz hsize hby hzs (by omega) (.slice A n c) n xs hs (hown.alloc _) ⟨w0.heap.size, 0, none⟩ 1 1 [u, v] hx rfl ?_ ?_ (by unfold maxLen; omega) hbound (by simp; omega) ?_
  · intro j y hj
    match j, hj with
    | 0, hj => simp at hj; subst hj; simp [Addr.add]
    | 1, hj => simp at hj; subst hj; simp [Addr.add]
  · intro y hy
    simp at hy
    rcases hy with rfl | rfl
    · exact h1
    · exact h2
  · intro v' w' hown' hgrow _
    obtain ⟨A', c', rfl⟩ := own_slice hown'
    have hg : w0.grownBy w' (Value.slice A n c).ownBlock :=
      ⟨hgrow.os, hgrow.tape, hgrow.output, Nat.le_trans (by simp) hgrow.size, fun k hk hne => (hgrow.block k (by simp; omega) hne).trans (Below.heap_alloc w0 _ k hk)⟩
    exact hK A' c' w' hown' hg ((Below.refl base w0).grown hg hbase (fun k hk => (hown.lt k hk).1))
theorem app2 {P : Program} (w0 : World) {ops : Array Oper} {rest : List Oper} {o : Oper} {a : Act} {Q : Exit → Act → World → Prop} (hgd : o.guard = none) (s x : Operand) (t e : TypeId)
    (ho : o.op = .call { callee := .builtin .append, args := #[s, x], argTypes := #[t, t] }) (z : Value) (bytes : Nat)
    (ht : P.underlying t = some (.slice e)) (hi : (P.info? e).map (fun i => (i.zero, i.size, i.bytes)) = some (some z, 2, bytes)) (hzs : z.cells.size = 2) (hbb : bytes ≤ 64)
    (base n c : Nat) (A : Option Addr) (xs : List Value) (hs : a.eval s = .slice A n c) (hown : w0.ownsRow base e 2 (.slice A n c) n xs) (u v : Value) (h1 : u.oneCell' = true) (h2 : v.oneCell' = true) (hx : a.eval x = .slice (some ⟨w0.heap.size, 0, none⟩) 1 1)
    (hn : n ≤ 1099511627776) (hbase : base ≤ w0.heap.size)
    (hK : ∀ A' c' w', w'.ownsRow base e 2 (.slice A' (n + 1) c') (n + 1) (xs ++ [u, v]) → w0.grownBy w' (Value.slice A n c).ownBlock → Below base w0 w' → wpList P ops Q rest (a.put o.dst (.slice A' (n + 1) c')) w') :
    wpList P ops Q (o :: rest) a (w0.alloc (.cells #[u, v] e)) :=
  wpList_plain hgd fun _ hK' => wp_app2 w0 s x t e ho z bytes ht hi hzs hbb base n c A xs hs hown u v h1 h2 hx hn hbase fun A' c' w' h2 h3 h4 => hK' _ _ (hK A' c' w' h2 h3 h4)
theorem step_app2 {P : Program} (w0 : World) {ops : Array Oper} {o : Oper} {a : Act} {K : Act → World → Prop} {Q : Exit → Act → World → Prop} {E : Prop} (hgd : o.guard = none) (s x : Operand) (t e : TypeId)
    (ho : o.op = .call { callee := .builtin .append, args := #[s, x], argTypes := #[t, t] }) (z : Value) (bytes : Nat)
    (ht : P.underlying t = some (.slice e)) (hi : (P.info? e).map (fun i => (i.zero, i.size, i.bytes)) = some (some z, 2, bytes)) (hzs : z.cells.size = 2) (hbb : bytes ≤ 64)
    (base n c : Nat) (A : Option Addr) (xs : List Value) (hs : a.eval s = .slice A n c) (hown : w0.ownsRow base e 2 (.slice A n c) n xs) (u v : Value) (h1 : u.oneCell' = true) (h2 : v.oneCell' = true) (hx : a.eval x = .slice (some ⟨w0.heap.size, 0, none⟩) 1 1)
    (hn : n ≤ 1099511627776) (hbase : base ≤ w0.heap.size)
    (hK : ∀ A' c' w', w'.ownsRow base e 2 (.slice A' (n + 1) c') (n + 1) (xs ++ [u, v]) → w0.grownBy w' (Value.slice A n c).ownBlock → Below base w0 w' → K (a.put o.dst (.slice A' (n + 1) c')) w') :
    if Region.wanted o (yielded ops a.tmps) = true then Oper.wp P o a (w0.alloc (.cells #[u, v] e)) K Q else E := by
  have hw : Region.wanted o (yielded ops a.tmps) = true := by simp [Region.wanted, hgd]
  rw [if_pos hw]
  exact wp_app2 w0 s x t e ho z bytes ht hi hzs hbb base n c A xs hs hown u v h1 h2 hx hn hbase hK

theorem info_op2 : (Tryz.prog.info? 122).map (fun i => (i.zero, i.size, i.bytes)) = some (some (.agg #[.int .i64 0, .slice none 0 0]), 2, 32) := by kernel_rfl

/-- A slice of operations of the call's own, its blocks from lo on. -/
def PO (lo : Nat) (w : World) (v : Value) (xs : List OpM) (css : List (List Value)) (bls : List (List Nat)) : Prop :=
  Parts shOp 122 w v xs css bls ∧ w.ownsRow lo 122 2 v xs.length css.flatten ∧ Iv lo w.heap.size (obl v ++ bls.flatten)
theorem shOp_blk {w : World} {c : List Value} {x : OpM} {bk : List Nat} (h : shOp.own w c x bk) {b : Nat} (hb : b ∈ bk) : ∃ cur fr, w.heap[b]? = some (.cells cur 3 fr) := by
  obtain ⟨c0, c1, b0, b1, rfl, rfl, ⟨_, rfl, -, rfl⟩, ⟨v, rfl, ho, -, rfl⟩⟩ := h
  rw [List.nil_append, mem_obl] at hb
  rcases ho.2 with ⟨rfl, -⟩ | ⟨g, cap, cur, rfl, -, hh, -⟩
  · simp [Value.ownBlock] at hb
  · simp only [Value.ownBlock, Option.some.injEq] at hb
    subst hb
    exact ⟨_, _, hh⟩
theorem row_blk {w : World} {base size n : Nat} {e : TypeId} {v : Value} {xs : List Value} (h : w.ownsRow base e size v n xs) {b : Nat} (hb : b ∈ obl v) : ∃ cur fr, w.heap[b]? = some (.cells cur e fr) := by
  rw [mem_obl] at hb
  rcases h.2 with ⟨rfl, -⟩ | ⟨g, cap, cur, rfl, -, hh, -⟩
  · simp [Value.ownBlock] at hb
  · simp only [Value.ownBlock, Option.some.injEq] at hb
    subst hb
    exact ⟨_, _, hh⟩
theorem obl_nd (v : Value) : (obl v).Nodup := by
  unfold obl
  cases v.ownBlock <;> simp
section
variable {lo : Nat} {w : World} {v : Value} {xs : List OpM} {css : List (List Value)} {bls : List (List Nat)}
theorem PO.nil (lo : Nat) (w : World) : PO lo w (.slice none 0 0) [] [] [] :=
  ⟨⟨⟨rfl, .inl ⟨rfl, rfl⟩⟩, rfl, rfl, fun k c x bk h => by simp at h⟩, ⟨rfl, .inl ⟨rfl, rfl⟩⟩, Iv.nil _ _⟩
theorem PO.own (h : PO lo w v xs css bls) : (Sh.rows shOp 122).own w [v] xs (obl v ++ bls.flatten) := ⟨v, css, bls, rfl, h.1, rfl⟩
theorem PO.next {w' : World} (h : PO lo w v xs css bls) (hb : Below w.heap.size w w') : PO lo w' v xs css bls :=
  ⟨h.1.same fun b hb' => hb.block b (h.1.lt b hb'), own_next h.2.1 hb, h.2.2.mono (Nat.le_refl _) hb.size⟩
theorem PO.same {w' : World} (h : PO lo w v xs css bls) (hz : w.heap.size ≤ w'.heap.size) (hs : ∀ b ∈ obl v ++ bls.flatten, w'.heap[b]? = w.heap[b]?) : PO lo w' v xs css bls :=
  ⟨h.1.same hs, own_same h.2.1 fun b hb => hs b (List.mem_append_left _ (mem_obl.2 hb)), h.2.2.mono (Nat.le_refl _) hz⟩
theorem PO.mono {lo' : Nat} (h : PO lo w v xs css bls) (hl : lo' ≤ lo) : PO lo' w v xs css bls := ⟨h.1, own_mono h.2.1 hl, h.2.2.mono hl (Nat.le_refl _)⟩
theorem PO.push (h : PO lo w v xs css bls) {w1 : World} (hb : Below w.heap.size w w1) (hlo : lo ≤ w.heap.size) {c : List Value} {x : OpM} {bk : List Nat} (ho : shOp.own w1 c x bk) (hiv : Iv w.heap.size w1.heap.size bk) :
    w1.ownsRow lo 122 2 v xs.length css.flatten ∧ ∀ {w2 : World} {v' : Value}, w2.ownsRow lo 122 2 v' (xs.length + 1) (css.flatten ++ c) → w1.grownBy w2 v.ownBlock → PO lo w2 v' (xs ++ [x]) (css ++ [c]) (bls ++ [bk]) := by
  have h1 := h.next hb
  refine ⟨h1.2.1, fun {w2 v'} hown hg => ?_⟩
  have hnd := List.nodup_append.1 h.2.2.1
  have far : ∀ b, b ∈ bls.flatten → w2.heap[b]? = w1.heap[b]? := fun b hb' => hg.block b (h1.2.2.2 b (List.mem_append_right _ hb')).2 fun e => hnd.2.2 b (mem_obl.2 e.symm) b hb' rfl
  have far2 : ∀ b, b ∈ bk → w2.heap[b]? = w1.heap[b]? := fun b hb' => hg.block b (hiv.2 b hb').2 fun e => by
    have h3 := (h.2.2.2 b (List.mem_append_left _ (mem_obl.2 e.symm))).2
    have h4 := (hiv.2 b hb').1
    omega
  have hl1 := h.1.l1
  have hl2 := h.1.l2
  have hP : Parts shOp 122 w2 v' (xs ++ [x]) (css ++ [c]) (bls ++ [bk]) := by
    refine ⟨?_, by simp [hl1], by simp [hl2], fun k c' x' bk' e1 e2 e3 => ?_⟩
    · rw [List.length_append, List.flatten_append, List.flatten_singleton]
      exact own_mono hown (Nat.zero_le _)
    · by_cases hk : k < xs.length
      · rw [List.getElem?_append_left (by omega)] at e1 e2 e3
        exact shOp.osame (h1.1.el k c' x' bk' e1 e2 e3) fun b hb' => far b (List.mem_flatten.2 ⟨_, List.mem_of_getElem? e3, hb'⟩)
      · have hk2 : k = xs.length := by
          have := (List.getElem?_eq_some_iff.1 e2).1
          simp at this
          omega
        subst hk2
        rw [List.getElem?_append_right (by omega)] at e1 e2 e3
        simp [hl1, hl2] at e1 e2 e3
        subst e1
        subst e2
        subst e3
        exact shOp.osame ho far2
  refine ⟨hP, by rw [List.length_append, List.flatten_append]; simpa using hown, ?_⟩
  rw [List.flatten_append]
  have hz : w1.heap.size ≤ w2.heap.size := hg.size
  have hzb := hb.size
  refine ⟨?_, fun b hb' => ?_⟩
  · rw [List.nodup_append]
    refine ⟨obl_nd _, ?_, fun a ha b hb' e => ?_⟩
    · rw [List.nodup_append]
      refine ⟨hnd.2.1, by simpa using hiv.1, fun a ha b hb' e => ?_⟩
      simp at hb'
      subst e
      have h3 := (h.2.2.2 a (List.mem_append_right _ ha)).2
      have h4 := (hiv.2 a hb').1
      omega
    · subst e
      obtain ⟨cur, fr, hc⟩ := row_blk hown ha
      have hb2 : a ∈ (bls ++ [bk]).flatten := by rw [List.flatten_append]; exact hb'
      obtain ⟨bq, hbq, hab⟩ := List.mem_flatten.1 hb2
      obtain ⟨k, hk⟩ := List.getElem?_of_mem hbq
      have hkl := (List.getElem?_eq_some_iff.1 hk).1
      have e1 := hP.l1
      have e2 := hP.l2
      have ho2 := hP.el k _ _ bq (List.getElem?_eq_getElem (by omega)) (List.getElem?_eq_getElem (by omega)) hk
      obtain ⟨cur2, fr2, hc2⟩ := shOp_blk ho2 hab
      rw [hc] at hc2
      injection hc2 with hc2
      injection hc2 with _ h5
      exact absurd h5 (by decide)
  · rcases List.mem_append.1 hb' with hb' | hb'
    · exact hown.lt b (mem_obl.1 hb')
    · rcases List.mem_append.1 hb' with hb' | hb'
      · have := h.2.2.2 b (List.mem_append_right _ hb')
        omega
      · have := hiv.2 b (by simpa using hb')
        omega
theorem set_nil_same {α : Type} {l : List α} {i : Nat} {x : α} (h : l[i]? = some x) : l.set i x = l := by
  apply List.ext_getElem?
  intro j
  rw [List.getElem?_set]
  by_cases hj : i = j
  · subst hj
    rw [if_pos rfl, if_pos (List.getElem?_eq_some_iff.1 h).1, h]
  · rw [if_neg hj]
theorem PO.tab (h : PO lo w v xs css bls) {k : Nat} {a : Int} {t : List Int} (hk : xs[k]? = some (a, t)) (ht : t ≠ []) :
    ∃ g cap tb d, v = .slice (some ⟨g, 0, none⟩) xs.length cap ∧ w.cell? ⟨g, k * 2, none⟩ = some (.int .i64 a) ∧ w.cell? ⟨g, k * 2 + 1, none⟩ = some (.slice (some ⟨tb, 0, none⟩) t.length d) ∧ lo ≤ tb ∧ tb < w.heap.size ∧
      (∀ p, w.frozen? ⟨tb, p, none⟩ = false) ∧ (∀ p x, t[p]? = some x → w.cell? ⟨tb, p, none⟩ = some (.int .i64 x)) ∧ tb ∈ bls.flatten ∧
      ∀ p u, InR u → PO lo (w.setCell ⟨tb, p, none⟩ (.int .i64 u)) v (xs.set k (a, t.set p u)) css bls := by
  obtain ⟨hP, hrow, hiv⟩ := h
  have hkl := (List.getElem?_eq_some_iff.1 hk).1
  obtain ⟨g, cap, hv⟩ := hP.slice hkl
  have hl1 := hP.l1
  have hl2 := hP.l2
  have hcj : css[k]? = some (css[k]'(by omega)) := List.getElem?_eq_getElem (by omega)
  have hbj : bls[k]? = some (bls[k]'(by omega)) := List.getElem?_eq_getElem (by omega)
  generalize css[k]'(by omega) = cj at hcj
  generalize bls[k]'(by omega) = bk at hbj
  have ho := hP.el k cj (a, t) bk hcj hk hbj
  have ho0 := ho
  obtain ⟨c0, c1, b0, b1, rfl, rfl, ⟨_, rfl, ⟨rfl, lo0, hi0⟩, rfl⟩, ⟨tv, rfl, O1, hR, rfl⟩⟩ := ho
  obtain ⟨tb, d, rfl⟩ : ∃ tb d, tv = .slice (some ⟨tb, 0, none⟩) t.length d := by
    rcases O1.2 with ⟨-, h0⟩ | ⟨g', cap', cur, rfl, -⟩
    · exact absurd (List.length_eq_zero_iff.1 h0) ht
    · exact ⟨_, _, rfl⟩
  have htm : tb ∈ bls.flatten := List.mem_flatten.2 ⟨_, List.mem_of_getElem? hbj, by simp [obl, Value.ownBlock]⟩
  have hbd := hiv.2 tb (List.mem_append_right _ htm)
  have hgb : tb ∉ obl v := fun hh => (List.nodup_append.1 hiv.1).2.2 tb hh tb htm rfl
  refine ⟨g, cap, tb, d, hv, hP.cell hv hcj (i := 0) rfl, hP.cell hv hcj (i := 1) rfl, hbd.1, hbd.2, fun p => O1.frozenAt p, fun p x hx => ?_, htm, fun p u hu => ?_⟩
  · have hpl := (List.getElem?_eq_some_iff.1 hx).1
    rw [O1.cellAt p (by show p < t.length * 1; omega)]
    show (t.map (Value.int .i64))[p]? = _
    rw [List.getElem?_map, hx]
    rfl
  · have hfar : ∀ b, b ≠ tb → (w.setCell ⟨tb, p, none⟩ (.int .i64 u)).heap[b]? = w.heap[b]? := fun b hb => Below.heap_setCell w _ _ b hb
    have hO2 : (w.setCell ⟨tb, p, none⟩ (.int .i64 u)).ownsRow 0 3 1 (.slice (some ⟨tb, 0, none⟩) t.length d) (t.set p u).length (ints (t.set p u)) := by
      have := (O1.stored p (.int .i64 u)).1
      rw [ints_set] at this
      simpa using this
    have hRu : ∀ y ∈ t.set p u, InR y := fun y hy => by
      rcases List.mem_or_eq_of_mem_set hy with h1 | h1
      · exact hR y h1
      · rw [h1]; exact hu
    have hrow2 : (w.setCell ⟨tb, p, none⟩ (.int .i64 u)).ownsRow lo 122 2 v xs.length css.flatten := own_same hrow fun b hb => hfar b fun e => hgb (by rw [← e]; exact mem_obl.2 hb)
    have hset : setAll css.flatten (k * shOp.m) [.int .i64 a, .slice (some ⟨tb, 0, none⟩) t.length d] = css.flatten := by
      have F0 : css.flatten[k * 2]? = some (.int .i64 a) := by have := flat_get hP.all k 0 (by decide); rw [hcj] at this; exact this
      have F1 : css.flatten[k * 2 + 1]? = some (.slice (some ⟨tb, 0, none⟩) t.length d) := by have := flat_get hP.all k 1 (by decide); rw [hcj] at this; exact this
      show (css.flatten.set (k * 2) _).set (k * 2 + 1) _ = _
      rw [set_same F0, set_same F1]
    have hPP := hP.put (w' := w.setCell ⟨tb, p, none⟩ (.int .i64 u)) hiv.1 hbj (c' := [.int .i64 a, .slice (some ⟨tb, 0, none⟩) t.length d]) (x' := (a, t.set p u)) (by rw [hset]; exact own_mono hrow2 (Nat.zero_le _))
      ⟨[.int .i64 a], [.slice (some ⟨tb, 0, none⟩) t.length d], [], [tb], rfl, rfl, ⟨_, rfl, ⟨rfl, lo0, hi0⟩, rfl⟩, ⟨_, rfl, hO2, hRu, rfl⟩⟩
      (fun b hb hn => hfar b fun e => hn (by rw [e]; simp [obl, Value.ownBlock]))
    have ecss : css.set k [.int .i64 a, .slice (some ⟨tb, 0, none⟩) t.length d] = css := set_nil_same hcj
    rw [ecss] at hPP
    exact ⟨hPP, by rw [List.length_set]; exact hrow2, by
      have : (w.setCell ⟨tb, p, none⟩ (.int .i64 u)).heap.size = w.heap.size := by simp
      rw [this]
      exact hiv⟩
end
end Go.Proofs.YtfnmkbpogbekpaaGreatDoor
namespace Go.Proofs.YtfnmkbpogbekpaaGreatDoor
open Go.RowKit

set_option maxRecDepth 20000 in
set_option maxHeartbeats 2000000 in
theorem cloneOp_any (cs : List Value) (x : OpM) (w : World) (h : shOp.rd w cs x) (hn : x.2.length ≤ 1048576) :
    Calls Tryz.prog 135 #[.agg cs.toArray] w (ToE shOp w x) := by
  obtain ⟨B, m, d, rfl, qa, qt⟩ := rdOp h
  have hm := qt.len
  obtain ⟨w0, hw0, T0, hs0, BP, BR⟩ := boxes2 w #[.int .i64 x.1, .slice B m d] #[.int .i64 0, .slice none 0 0] 122 122
  have HW0 := Lib.hid hw0
  have HR := Lib.hid qt.bounds
  have qt0 := qt.next stab_RI T0
  have hz0 : w0.heap.size = w.heap.size + 2 := hs0
  have HZ0 := Lib.hid hz0
  clear hw0 hs0 hz0
  have cP0 := BP.cell 0
  have cP1 := BP.cell 1
  have cR0 := BR.cell 0
  have cR1 := BR.cell 1
  have fR0 := BR.frozen 0
  have fR1 := BR.frozen 1
  simp at cP0 cP1 cR0 cR1
  go_enter Tryz.func135, Tryz.ntmps135
  go_upto_region 1 with fail
  rw [← HW0.out]
  go_region_with (go_at_call 137; refine (clone_any _ _ _ x.2 _ (by first | exact qt0 | exact qt0.drew stab_RI) (by omega)).mono ?_; rintro e w2 ⟨A', c', rfl, ho, hbn⟩; have hb := below_next (Below.drew (Below.refl w0.heap.size w0)) hbn rfl; have BP2 := BP.next hb; have BR2 := BR.next hb; have dP0 := BP2.cell 0; have dP1 := BP2.cell 1; have dR0 := BR2.cell 0; have dR1 := BR2.cell 1; have gR0 := BR2.frozen 0; have gR1 := BR2.frozen 1; simp at dP0 dP1 dR0 dR1)
  all_goals
    have T2 := below_next T0 hb rfl
    have hz2 := hb.size
    have hne := own_off ho BR2 (by decide)
    have hO := own_set (own_set ho (p := ⟨w.heap.size + 1, 0, none⟩) hne (.int .i64 x.1)) (p := ⟨w.heap.size + 1, 1, none⟩) hne (.slice A' m c')
    have BRR : Blk ((w2.setCell ⟨w.heap.size + 1, 0, none⟩ (.int .i64 x.1)).setCell ⟨w.heap.size + 1, 1, none⟩ (.slice A' m c')) (w.heap.size + 1) 122 #[.int .i64 x.1, .slice A' m c'] := by simpa using ((BR2.set_ 0 (.int .i64 x.1)).set_ 1 (.slice A' m c'))
    have hiv := obl_iv hO
    have hO2 : ((w2.setCell ⟨w.heap.size + 1, 0, none⟩ (.int .i64 x.1)).setCell ⟨w.heap.size + 1, 1, none⟩ (.slice A' m c')).ownsRow 0 3 1 (.slice A' m c') x.2.length (ints x.2) := by rw [hm]; exact own_mono hO (Nat.zero_le _)
    have hT : Below w.heap.size w ((w2.setCell ⟨w.heap.size + 1, 0, none⟩ (.int .i64 x.1)).setCell ⟨w.heap.size + 1, 1, none⟩ (.slice A' m c')) := (T2.setCell (by show _ ≤ _; simp) _).setCell (by show _ ≤ _; simp) _
    have hlow : w.heap.size ≤ w0.drew.heap.size := T0.size
    go_wp2
    (try simp only [Exit.inBlock, Exit.then])
    refine bodyPost_ret (v := .agg #[.int .i64 x.1, .slice A' m c']) (results_cell_row rfl _ _ (w.heap.size + 1) 122 #[.int .i64 x.1, .slice A' m c'] (0, 0) _ (by simp) BRR Tryz.underlying122 rfl (by kernel_rfl)) rfl ?_
    exact ⟨[.int .i64 x.1, .slice A' m c'], obl (.slice A' m c'), rfl, ⟨[.int .i64 x.1], [.slice A' m c'], [], obl (.slice A' m c'), rfl, rfl, ⟨_, rfl, ⟨rfl, qa.1, qa.2⟩, rfl⟩, ⟨_, rfl, hO2, HR.out, rfl⟩⟩, hiv.mono hlow (Nat.le_refl _), hT⟩

/-- An algebra handed back, its slices the call's own. -/
def AlgE (w : World) (x : AlgebraM) (e : Ending) (w' : World) : Prop := ∃ v css bls, e = .returned (.agg #[.int .i64 x.1, v]) ∧ PO w.heap.size w' v x.2 css bls ∧ Below w.heap.size w w'
theorem PO.far {lo : Nat} {w : World} {v : Value} {xs : List OpM} {css : List (List Value)} {bls : List (List Nat)} (h : PO lo w v xs css bls) {p : Addr} (hp : p.block < lo) (u : Value) : PO lo (w.setCell p u) v xs css bls :=
  h.same (by simp) fun b hb => Below.heap_setCell w p u b (by have := (h.2.2.2 b hb).1; omega)
theorem PO.algO {lo : Nat} {w : World} {v : Value} {a : Int} {xs : List OpM} {css : List (List Value)} {bls : List (List Nat)} (h : PO lo w v xs css bls) (ha : InR a) : shAlgebra.own w [.int .i64 a, v] (a, xs) (obl v ++ bls.flatten) :=
  ⟨[.int .i64 a], [v], [], obl v ++ bls.flatten, rfl, rfl, ⟨_, rfl, ⟨rfl, ha.1, ha.2⟩, rfl⟩, h.own⟩
theorem take_snoc {α : Type} {l : List α} {k : Nat} {x : α} (h : l[k]? = some x) : l.take (k + 1) = l.take k ++ [x] := by rw [List.take_add_one, h]; rfl

set_option maxRecDepth 20000 in
set_option maxHeartbeats 4000000 in
theorem cloneAlgebra_any (cs : List Value) (x : AlgebraM) (w : World) (h : shAlgebra.rd w cs x) (hn : shAlgebra.cnt x ≤ 1048576) :
    Calls Tryz.prog 78 #[.agg cs.toArray] w (AlgE w x) := by
  obtain ⟨B, m, d, rfl, qs, qo⟩ := rdAlgebra h
  have hm := qo.len
  have hcn : 0 + (x.2.length + cntS shOp.cnt x.2) ≤ 1048576 := hn
  have HCN := Lib.hid hcn
  have hle : m ≤ 1048576 := by omega
  obtain ⟨w0, hw0, T0, hs0, BP, BR, BO⟩ := boxes3 w #[.int .i64 x.1, .slice B m d] #[.int .i64 0, .slice none 0 0] #[.int .i64 x.1, .slice none 0 0] 24 24
  have HW0 : Hid (_ = w0) := hw0.symm
  have HZ0 := Lib.hid hs0
  have cP0 := ((Blk.new w 24 #[.int .i64 x.1, .slice B m d]).alloc (.cells #[.int .i64 0, .slice none 0 0] 24)).cell 0
  have cP1 := BP.cell 1
  simp at cP0 cP1
  rw [hw0] at cP1
  have hP0 : PO w0.heap.size w0 (.slice none 0 0) (x.2.take 0) [] [] := PO.nil _ _
  clear hw0 hs0 hcn
  go_enter Tryz.func78, Tryz.ntmps78
  go_wp2_with fail
  clear cP0 cP1
  go_loopw [12] (fun i wr => ∃ (k : Nat) (v : Value) (css : List (List Value)) (bls : List (List Nat)), k ≤ m ∧ i = .int .i64 k ∧ Blk wr (w.heap.size + 1 + 1) 24 #[.int .i64 x.1, v] ∧ Blk wr (w.heap.size + 1) 24 #[.int .i64 0, .slice none 0 0] ∧ PO w0.heap.size wr v (x.2.take k) css bls ∧ Below w.heap.size w wr) (fun i _ => m - (intOf i).toNat)
  case atStart =>
    rw [HW0.out]
    exact ⟨0, _, _, _, Nat.zero_le _, rfl, BO, BR, hP0, T0⟩
  case round =>
    clear hP0 BO BR BP
    obtain ⟨k, v, css, bls, hk, rfl, BO, BR, hPO, hT⟩ := hrel
    by_cases hlt : k < m
    · have hk0 : (0 : Int) ≤ (k : Int) := by omega
      have hk1 : (k : Int) < (m : Int) := by omega
      obtain ⟨b, o, vs, y, rfl, -, hc, hr, -, hx⟩ := (qo.next hT).at hlt
      obtain ⟨B', m', d', rfl, qa, qt⟩ := rdOp hr
      have cc0 : wr.cell? ⟨b, o + k * 2, none⟩ = some (.int .i64 y.1) := hc 0 _ rfl
      have cc1 : wr.cell? ⟨b, o + k * 2 + 1, none⟩ = some (.slice B' m' d') := hc 1 _ rfl
      have HTS : Hid (x.2.take (k + 1) = x.2.take k ++ [y]) := take_snoc hx
      have hcy : y.2.length ≤ 1048576 := by
        have h1 := cntS_mem (f := shOp.cnt) (List.mem_of_getElem? hx)
        have h2 := HCN.out
        have h3 : shOp.cnt y = 0 + y.2.length := rfl
        omega
      obtain ⟨L, HL⟩ : ∃ L, Hid (x.2.take k = L) := ⟨_, rfl⟩
      have HLK : Hid (L.length = k) := by show _ = _; rw [← HL.out, List.length_take]; omega
      rw [HL.out] at hPO
      have HTS2 : Hid (x.2.take (k + 1) = L ++ [y]) := by show _ = _; rw [HTS.out, HL.out]
      obtain ⟨A, c, rfl⟩ := own_slice hPO.2.1
      obtain ⟨w5, hw5, T5, hs5, BY⟩ := boxes1 wr #[.int .i64 y.1, .slice B' m' d'] 122
      have HW5 := Lib.hid hw5
      have hP5 := hPO.next T5
      have hr5 := shOp.stab hr T5.block
      have BO5 := BO.next T5
      have BR5 := BR.next T5
      have hT5 := below_next hT T5 rfl
      have cO5 := BO5.cell 1
      have fO5 := BO5.frozen 1
      have cY0 := BY.cell 0
      have cY1 := BY.cell 1
      simp at cO5 cY0 cY1
      have hwz0 : w0.heap.size ≤ w5.heap.size := by
        rcases hP5.2.1.2 with ⟨h1, h2⟩ | ⟨g9, _, _, h1, h2, _⟩
        · have := hT5.size
          have h9 := BO5.lt
          have h8 := HZ0.out
          omega
        · injection h1 with h1
          have := hP5.2.2.2 g9 (List.mem_append_left _ (by rw [h1]; simp [obl, Value.ownBlock]))
          omega
      clear hw5 hs5 hc hx hr hPO
      go_upto_region 5 with fail
      rw [← HW5.out]
      clear cc0 cc1
      go_region_law (first
        | (refine step_app2 w6 rfl (.tmp 17) (.tmp 20) 22 122 rfl (.agg #[.int .i64 0, .slice none 0 0]) 32 Tryz.underlying22 info_op2 rfl (by decide) w0.heap.size L.length c A css.flatten (by rfl) hvs (.int .i64 y.1) (.slice B6 m6 d6) rfl rfl (by rfl) (by have := HLK.out; omega) (by omega) ?_; intro A8 c8 w8 hown8 hg8 hb8; have BO8 := BO6.grown hg8 (fun e => own_off hvs BO6 (by decide) e.symm); have BR8 := BR6.grown hg8 (fun e => own_off hvs BR6 (by decide) e.symm); have cO8 := BO8.cell 1; have fO8 := BO8.frozen 1; simp at cO8)
        | (go_simp; go_at_call 135; refine (cloneOp_any [.int .i64 y.1, .slice B' m' d'] y _ (by first | exact hr5 | exact shOp.stab hr5 (fun _ _ => rfl)) hcy).mono ?_; rintro e w6 ⟨ds, bk, rfl, how, hiv, hbn⟩; obtain ⟨B6, m6, d6, rfl, -, -⟩ := rdOp (shOp.ord how); have hb := below_next (Below.drew (Below.refl w5.heap.size w5)) hbn rfl; have hiv6 : Iv w5.heap.size w6.heap.size bk := hiv; obtain ⟨hvs, HPU⟩ := hP5.push hb hwz0 how hiv6; have hsz6 := hb.size; have BO6 := BO5.next hb; have BR6 := BR5.next hb; have cO6 := BO6.cell 1; have fO6 := BO6.frozen 1; have dY0 := (BY.next hb).cell 0; have dY1 := (BY.next hb).cell 1; have cO6a := (BO6.alloc (.cells #[.int .i64 y.1, .slice B6 m6 d6] 122)).cell 1; simp at cO6 dY0 dY1 cO6a))
      all_goals
        have PN2 := (HPU hown8 hg8).far (p := ⟨w.heap.size + 1 + 1, 1, none⟩) (by have := HZ0.out; show w.heap.size + 1 + 1 < w0.heap.size; omega) (.slice A8 (L.length + 1) c8)
        have hT8 := ((below_next hT5 hb rfl).trans (hb8.mono (by have := HZ0.out; omega))).setCell (p := ⟨w.heap.size + 1 + 1, 1, none⟩) (by show _ ≤ _; simp; try omega) (.slice A8 (L.length + 1) c8)
        have BO9 : Blk (w8.setCell ⟨w.heap.size + 1 + 1, 1, none⟩ (.slice A8 (L.length + 1) c8)) (w.heap.size + 1 + 1) 24 #[.int .i64 x.1, .slice A8 (L.length + 1) c8] := by simpa using BO8.set_ 1 (.slice A8 (L.length + 1) c8)
        have BR9 := BR8.far (p := ⟨w.heap.size + 1 + 1, 1, none⟩) (by simp) (.slice A8 (L.length + 1) c8)
        have HFIN := Lib.hid (And.intro BO9 (And.intro BR9 (And.intro PN2 hT8)))
        clear BO9 BR9 PN2 hT8 cO6 fO6 cO6a dY0 dY1 cO8 fO8 hown8 hg8 hb8 BO8 BR8 BO6 BR6 hvs HPU how hbn hb
        go_wp2_with fail
        go_roundw
        case rel => exact ⟨k + 1, _, _, _, by omega, by go_num, HFIN.out.1, HFIN.out.2.1, by rw [HTS2.out]; exact HFIN.out.2.2.1, HFIN.out.2.2.2⟩
        case measure => simp [intOf]; omega
    · obtain rfl : k = m := by omega
      have hlt' : ¬ (k : Int) < (k : Int) := by omega
      have hP : PO w0.heap.size wr v x.2 css bls := by rw [List.take_of_length_le (by omega)] at hPO; exact hPO
      obtain ⟨A, c, hv⟩ := own_slice hP.2.1
      rw [hm] at hv
      subst hv
      have hlow : w.heap.size ≤ w0.heap.size := by have := HZ0.out; omega
      have hPF := ((hP.far (p := ⟨w.heap.size + 1, 0, none⟩) (by have := HZ0.out; show w.heap.size + 1 < w0.heap.size; omega) (.int .i64 x.1)).far (p := ⟨w.heap.size + 1, 1, none⟩) (by have := HZ0.out; show w.heap.size + 1 < w0.heap.size; omega) (.slice A k c)).mono hlow
      have hTF := (hT.setCell (p := ⟨w.heap.size + 1, 0, none⟩) (by show _ ≤ _; simp) (.int .i64 x.1)).setCell (p := ⟨w.heap.size + 1, 1, none⟩) (by show _ ≤ _; simp) (.slice A k c)
      have cO0 := BO.cell 0
      have cO1 := BO.cell 1
      have cR0 := BR.cell 0
      have cR1 := BR.cell 1
      have fR0 := BR.frozen 0
      have fR1 := BR.frozen 1
      have BRR : Blk ((wr.setCell ⟨w.heap.size + 1, 0, none⟩ (.int .i64 x.1)).setCell ⟨w.heap.size + 1, 1, none⟩ (.slice A k c)) (w.heap.size + 1) 24 #[.int .i64 x.1, .slice A k c] := by simpa using ((BR.set_ 0 (.int .i64 x.1)).set_ 1 (.slice A k c))
      have HPF := Lib.hid hPF
      simp at cO0 cO1 cR0 cR1
      clear hP hPF hPO
      go_wp2_with fail
      (try simp only [Exit.inBlock, Exit.then])
      refine bodyPost_ret (v := .agg #[.int .i64 x.1, .slice A k c]) (results_cell_row rfl _ _ (w.heap.size + 1) 24 #[.int .i64 x.1, .slice A k c] (0, 0) _ (by simp) BRR Tryz.underlying24 rfl (by kernel_rfl)) rfl ?_
      exact ⟨_, css, bls, rfl, HPF.out, hTF⟩
end Go.Proofs.YtfnmkbpogbekpaaGreatDoor
namespace Go.Proofs.YtfnmkbpogbekpaaGreatDoor
open Go.RowKit

theorem op_len {n : Nat} {o : OpM} (h : OpP n o) (hn : n ≤ 8) : o.2.length ≤ 4096 := by
  rw [h.2.2.1]
  exact pow_bd hn (by have := h.2.1; omega)
theorem cnt_alg {x : AlgebraM} (h : AlgP x) : shAlgebra.cnt x ≤ 1048576 := by
  have key : ∀ l : List OpM, (∀ o ∈ l, OpP x.1.toNat o) → cntS shOp.cnt l ≤ l.length * 4096 := by
    intro l
    induction l with
    | nil => intro _; exact Nat.zero_le _
    | cons o l ih =>
      intro hl
      rw [cntS_cons, List.length_cons, Nat.succ_mul]
      have h1 := ih fun o ho => hl o (by simp [ho])
      have h2 := op_len (hl o (by simp)) (by have := h.2.1; omega)
      have h3 : shOp.cnt o = 0 + o.2.length := rfl
      omega
  have h1 := key x.2 h.2.2.2
  have h2 := h.2.2.1
  have h3 : shAlgebra.cnt x = 0 + (x.2.length + cntS shOp.cnt x.2) := rfl
  have h4 := Nat.mul_le_mul_right 4096 h2
  omega

end Go.Proofs.YtfnmkbpogbekpaaGreatDoor
namespace Go.Proofs.YtfnmkbpogbekpaaGreatDoor
open Go.RowKit

end Go.Proofs.YtfnmkbpogbekpaaGreatDoor
namespace Go.Proofs.YtfnmkbpogbekpaaGreatDoor
open Go.RowKit

theorem res_row_tmpF {P : Program} {fn : Func} {p u : Tmp} {ty : TypeId} (h : fn.results = #[.cell p ty, .tmp u]) (tmps : Array Value) (w : World) (g : Nat) (t : TypeId) (cs : Array Value) (fr : Nat × Nat) (d : TypeDesc) (b : Value)
    (hp : tmps.getD p undef = .pointer (some ⟨g, 0, none⟩)) (hg : w.heap[g]? = some (.cells cs t fr))
    (hu : P.underlying ty = some d) (hd : (match d with | .struct _ | .array _ _ => true | _ => false) = true) (hi : (P.info? ty).map (·.size) = some cs.size) (hb : tmps.getD u undef = b) :
    (results fn tmps).run P w = .ok (.tuple #[.agg cs, b]) w := by
  rw [results_cell_tmp h, hp, hb]
  simp [asAddr, Result.andThen, run_loadVar_row w g t ty cs fr d hg hu hd hi]
theorem boxes3' (w : World) (cp cz co : Array Value) (tp tq tr : TypeId) : ∃ w3, w3 = ((w.alloc (.cells cp tp)).alloc (.cells cz tq)).alloc (.cells co tr) ∧ Below w.heap.size w w3 ∧ w3.heap.size = w.heap.size + 3 ∧ Blk w3 w.heap.size tp cp ∧ Blk w3 (w.heap.size + 1) tq cz ∧ Blk w3 (w.heap.size + 1 + 1) tr co := by
  refine ⟨_, rfl, below_box3 w _ _ _, by simp, ((Blk.new w tp cp).alloc _).alloc _, ?_, ?_⟩
  · have := ((Blk.new (w.alloc (.cells cp tp)) tq cz).alloc (.cells co tr))
    rwa [show (w.alloc (.cells cp tp)).heap.size = w.heap.size + 1 by simp] at this
  · have := Blk.new ((w.alloc (.cells cp tp)).alloc (.cells cz tq)) tr co
    rwa [show ((w.alloc (.cells cp tp)).alloc (.cells cz tq)).heap.size = w.heap.size + 1 + 1 by simp] at this
/-! ## append, told where the row lies -/
end Go.Proofs.YtfnmkbpogbekpaaGreatDoor
namespace Go.Proofs.YtfnmkbpogbekpaaGreatDoor

noncomputable def tt (p : Prop) : Bool := @decide p (Classical.propDecidable p)
theorem tt_true {p : Prop} (h : p) : true = tt p := by unfold tt; simp [h]
theorem tt_false {p : Prop} (h : ¬ p) : false = tt p := by unfold tt; simp [h]
theorem tt_iff {p : Prop} : tt p = true ↔ p := by unfold tt; simp
end Go.Proofs.YtfnmkbpogbekpaaGreatDoor
namespace Go.Proofs.YtfnmkbpogbekpaaGreatDoor
open Go.RowKit

abbrev SlT : Type := Option Addr × Nat × Nat
def slV (t : SlT) : Value := .slice t.1 t.2.1 t.2.2
def RSl (_ : World) (v : Value) (t : SlT) : Prop := v = slV t
end Go.Proofs.YtfnmkbpogbekpaaGreatDoor
namespace Go.Proofs.YtfnmkbpogbekpaaGreatDoor
open Go.RowKit

/-- Is the list a set of numbers below n? -/
def setB (n : Int) (s : List Int) : Bool := allIn 0 (n - 1) s && risesL s
/-- Is the meet of s with each of some lists among xss? -/
def meetsIn (xss : List (List Int)) (s : List Int) : List (List Int) → Bool
  | [] => true
  | t :: l => if place xss (meetL t s) < 0 then false else meetsIn xss s l
/-- What the loop over the sets says from the k-th on. -/
def sysRest (n : Int) (xss : List (List Int)) : Nat → List (List Int) → Bool
  | _, [] => decide (0 < xss.length) && ((xss.getLast?.getD []).length : Int) == n
  | k, s :: l => setB n s && (k == 0 || decide (cmpT (xss.getD (k - 1) []) s < 0)) && meetsIn xss s (xss.take k) && sysRest n xss (k + 1) l
def sysB (n : Int) (xss : List (List Int)) : Bool := sysRest n xss 0 xss
def SysAt (n : Int) (xss : List (List Int)) (k : Nat) : Prop := sysRest n xss k (xss.drop k) = sysB n xss
theorem SysAt.step {n : Int} {xss : List (List Int)} {k : Nat} {s : List Int} (h : SysAt n xss k) (hd : xss.drop k = s :: xss.drop (k + 1)) (h1 : setB n s = true) (h2 : (k == 0 || decide (cmpT (xss.getD (k - 1) []) s < 0)) = true) (h3 : true = meetsIn xss s (xss.take k)) : SysAt n xss (k + 1) := by
  unfold SysAt at *; rw [← h, hd, sysRest, h1, h2, ← h3]; rfl
theorem SysAt.stop1 {n : Int} {xss : List (List Int)} {k : Nat} {s : List Int} (h : SysAt n xss k) (hd : xss.drop k = s :: xss.drop (k + 1)) (h1 : setB n s = false) : false = sysB n xss := by
  unfold SysAt at *; rw [← h, hd, sysRest, h1]; rfl
theorem SysAt.stop2 {n : Int} {xss : List (List Int)} {k : Nat} {s : List Int} (h : SysAt n xss k) (hd : xss.drop k = s :: xss.drop (k + 1)) (h2 : (k == 0 || decide (cmpT (xss.getD (k - 1) []) s < 0)) = false) : false = sysB n xss := by
  unfold SysAt at *; rw [← h, hd, sysRest, h2]; simp
theorem SysAt.done {n : Int} {xss : List (List Int)} {k : Nat} {r : Bool} (h : SysAt n xss k) (hd : xss.drop k = []) (hr : sysRest n xss k [] = r) : r = sysB n xss := by
  unfold SysAt at *; rw [← h, hd, hr]
theorem RdL.take {α : Type} {R : World → Value → α → Prop} {w : World} {A : Option Addr} {n : Nat} {xs : List α} (h : RdL R w A n xs) {k : Nat} (hk : k ≤ n) : RdL R w A k (xs.take k) := by
  refine ⟨by rw [List.length_take, h.1]; omega, Nat.le_trans hk h.2.1, fun j x hj => ?_⟩
  rw [List.getElem?_take] at hj
  split at hj
  · exact h.2.2 j x hj
  · cases hj

end Go.Proofs.YtfnmkbpogbekpaaGreatDoor
namespace Go.Proofs.YtfnmkbpogbekpaaGreatDoor
open Go.RowKit

/-- A slice value by its parts. -/
theorem choose_list {α : Type} {p : Nat → α → Prop} (n : Nat) (h : ∀ (k : Nat), k < n → ∃ x, p k x) : ∃ l : List α, l.length = n ∧ ∀ (k : Nat) x, l[k]? = some x → p k x := by
  induction n with
  | zero => exact ⟨[], rfl, fun k x hx => by simp at hx⟩
  | succ n ih =>
    obtain ⟨l, hl, hp⟩ := ih fun k hk => h k (by omega)
    obtain ⟨x, hx⟩ := h n (by omega)
    refine ⟨l ++ [x], by simp [hl], fun k y hy => ?_⟩
    rcases Nat.lt_or_ge k n with _ | _
    · rw [List.getElem?_append_left (by omega)] at hy
      exact hp k y hy
    · have hk2 := (List.getElem?_eq_some_iff.1 hy).1
      simp at hk2
      have hkn : k = n := by omega
      subst hkn
      rw [List.getElem?_append_right (by omega), hl, Nat.sub_self] at hy
      simp at hy
      subst hy
      exact hx
/-- The places of the inner slices. -/
theorem RdL.raw {α : Type} {R : World → Value → α → Prop} {w : World} {A : Option Addr} {n : Nat} {xss : List (List α)} (h : RdL (RV R) w A n xss) :
    ∃ ts : List SlT, RdL RSl w A n ts ∧ ∀ (k : Nat) t xs, ts[k]? = some t → xss[k]? = some xs → RdL R w t.1 t.2.1 xs := by
  obtain ⟨ts, hl, hp⟩ := choose_list (p := fun k (t : SlT) => ∃ b o xs, A = some ⟨b, o, none⟩ ∧ w.cell? ⟨b, o + k, none⟩ = some (slV t) ∧ xss[k]? = some xs ∧ RdL R w t.1 t.2.1 xs) n (fun k hk => by
    obtain ⟨b, o, v, xs, e, hc, ⟨B, m, c, rfl, hr⟩, -, hx⟩ := h.at hk
    exact ⟨(B, m, c), b, o, xs, e, hc, hx, hr⟩)
  refine ⟨ts, ⟨hl, h.2.1, fun k t hk => ?_⟩, fun k t xs ht hx => ?_⟩
  · obtain ⟨b, o, xs, e, hc, -, -⟩ := hp k t hk
    exact ⟨b, o, slV t, e, hc, rfl⟩
  · obtain ⟨b, o, ys, -, -, hy, hr⟩ := hp k t ht
    rw [hx] at hy
    injection hy with hy
    rw [hy]
    exact hr
theorem RdL.drop {α : Type} {R : World → Value → α → Prop} {w : World} {b o n : Nat} {xs : List α} (h : RdL R w (some ⟨b, o, none⟩) n xs) (k : Nat) : RdL R w (some ⟨b, o + k, none⟩) (n - k) (xs.drop k) := by
  refine ⟨by rw [List.length_drop, h.1], Nat.le_trans (Nat.sub_le _ _) h.2.1, fun j x hj => ?_⟩
  rw [List.getElem?_drop] at hj
  obtain ⟨b', o', v, e, hc, hr⟩ := h.2.2 (k + j) x hj
  simp only [Option.some.injEq, Addr.mk.injEq, and_true] at e
  obtain ⟨rfl, rfl⟩ := e
  exact ⟨b, o + k, v, rfl, by rw [Nat.add_assoc]; exact hc, hr⟩

/-- Does p go ahead of q? Shorter lists first, then by the numbers. -/
def lessT (p q : List Int) : Bool := decide (p.length < q.length) || (decide (p.length = q.length) && lessL p q)
theorem own_form {w : World} {base : Nat} {e : TypeId} {size : Nat} {A : Option Addr} {n c : Nat} {xs : List Value} (h : w.ownsRow base e size (.slice A n c) n xs) (hn : 0 < n) : ∃ g, A = some ⟨g, 0, none⟩ ∧ base ≤ g ∧ n ≤ c := by
  rcases h.2 with ⟨h0, h1⟩ | ⟨g, cap, cur, hv, hb, _, hnc, _⟩
  · omega
  · injection hv with hA _ hc
    exact ⟨g, hA, hb, by omega⟩
theorem sort_cap {w : World} {base : Nat} {e : TypeId} {size : Nat} {A : Option Addr} {n c : Nat} {xs : List Value} (h : w.ownsRow base e size (.slice A n c) n xs) : n ≤ c := by
  rcases h.2 with ⟨h0, h1⟩ | ⟨g, cap, cur, hv, _, _, hnc, _⟩
  · omega
  · injection hv with _ _ hc
    omega
end Go.Proofs.YtfnmkbpogbekpaaGreatDoor
namespace Go.Proofs.YtfnmkbpogbekpaaGreatDoor
open Go.RowKit

end Go.Proofs.YtfnmkbpogbekpaaGreatDoor
namespace Go.Proofs.YtfnmkbpogbekpaaGreatDoor
open Go.RowKit

/-! ## Lists in a strict order are known by their members -/
theorem ordered_ext {α : Type} {r : α → α → Prop} (hirr : ∀ x, ¬ r x x) (htr : ∀ x y z, r x y → r y z → r x z) : ∀ {l m : List α}, l.Pairwise r → m.Pairwise r → (∀ x, x ∈ l ↔ x ∈ m) → l = m
  | [], [], _, _, _ => rfl
  | [], y :: m, _, _, h => absurd ((h y).2 (List.mem_cons_self ..)) (by simp)
  | x :: l, [], _, _, h => absurd ((h x).1 (List.mem_cons_self ..)) (by simp)
  | x :: l, y :: m, hl, hm, h => by
    have hl' := List.pairwise_cons.1 hl
    have hm' := List.pairwise_cons.1 hm
    have hxy : x = y := by
      rcases List.mem_cons.1 ((h x).1 (List.mem_cons_self ..)) with e | e
      · exact e
      · rcases List.mem_cons.1 ((h y).2 (List.mem_cons_self ..)) with e' | e'
        · exact e'.symm
        · exact absurd (htr _ _ _ (hm'.1 x e) (hl'.1 y e')) (hirr y)
    subst hxy
    rw [ordered_ext hirr htr hl'.2 hm'.2 fun z => by
      constructor
      · intro hz
        rcases List.mem_cons.1 ((h z).1 (List.mem_cons_of_mem _ hz)) with e | e
        · subst e; exact absurd (hl'.1 z hz) (hirr z)
        · exact e
      · intro hz
        rcases List.mem_cons.1 ((h z).2 (List.mem_cons_of_mem _ hz)) with e | e
        · subst e; exact absurd (hm'.1 z hz) (hirr z)
        · exact e]
/-! ## Numbers, members -/
theorem hasI_iff {x : Int} : ∀ {l : List Int}, hasI x l = true ↔ x ∈ l
  | [] => by simp [hasI]
  | y :: l => by
    rw [hasI, Bool.or_eq_true, hasI_iff (l := l), beq_iff_eq, List.mem_cons]
    constructor
    · rintro (h | h)
      · exact .inl h.symm
      · exact .inr h
    · rintro (h | h)
      · exact .inl h.symm
      · exact .inr h
theorem mem_meetL {ys : List Int} {x : Int} : ∀ {xs : List Int}, x ∈ meetL ys xs ↔ x ∈ xs ∧ x ∈ ys
  | [] => by simp [meetL]
  | y :: l => by
    rw [meetL]
    split
    · rename_i h
      rw [hasI_iff] at h
      simp only [List.mem_cons, mem_meetL (xs := l)]
      constructor
      · rintro (rfl | h')
        · exact ⟨.inl rfl, h⟩
        · exact ⟨.inr h'.1, h'.2⟩
      · rintro ⟨rfl | h', h2⟩
        · exact .inl rfl
        · exact .inr ⟨h', h2⟩
    · rename_i h
      rw [hasI_iff] at h
      simp only [List.mem_cons, mem_meetL (xs := l)]
      constructor
      · rintro ⟨h1, h2⟩; exact ⟨.inr h1, h2⟩
      · rintro ⟨rfl | h', h2⟩
        · exact absurd h2 h
        · exact ⟨h', h2⟩
theorem meetL_sub (ys : List Int) : ∀ xs, (meetL ys xs).Sublist xs
  | [] => List.Sublist.refl _
  | x :: l => by
    rw [meetL]
    split
    · exact (meetL_sub ys l).cons_cons x
    · exact (meetL_sub ys l).cons x
/-- A set of numbers from 0 on, below n. -/
def IsSet (n : Nat) (p : List Int) : Prop := p.Pairwise (· < ·) ∧ ∀ x ∈ p, 0 ≤ x ∧ x < (n : Int)
theorem IsSet.meet {n : Nat} {p : List Int} (h : IsSet n p) (q : List Int) : IsSet n (meetL q p) :=
  ⟨h.1.sublist (meetL_sub q p), fun x hx => h.2 x (mem_meetL.1 hx).1⟩
/-! ## The order of the sets -/
theorem lessL_irr : ∀ l : List Int, lessL l l = false
  | [] => rfl
  | x :: l => by simp [lessL, lessL_irr l]
theorem lessL_trans : ∀ {p q r : List Int}, p.length = q.length → q.length = r.length → lessL p q = true → lessL q r = true → lessL p r = true
  | [], _, _, _, _, h, _ => by simp [lessL] at h
  | x :: p, [], _, h, _, _, _ => by simp at h
  | x :: p, y :: q, [], _, h, _, _ => by simp at h
  | x :: p, y :: q, z :: r, h1, h2, h3, h4 => by
    simp only [List.length_cons, Nat.add_right_cancel_iff] at h1 h2
    simp only [lessL] at h3 h4 ⊢
    by_cases e1 : x = y
    · subst e1
      simp only [beq_self_eq_true, if_true] at h3
      by_cases e2 : x = z
      · subst e2
        simp only [beq_self_eq_true, if_true] at h4 ⊢
        exact lessL_trans h1 h2 h3 h4
      · have e2' : (x == z) = false := beq_eq_false_iff_ne.2 e2
        rw [e2'] at h4 ⊢
        exact h4
    · have e1' : (x == y) = false := beq_eq_false_iff_ne.2 e1
      rw [e1'] at h3
      simp at h3
      by_cases e2 : y = z
      · subst e2
        rw [e1']
        simp [h3]
      · have e2' : (y == z) = false := beq_eq_false_iff_ne.2 e2
        rw [e2'] at h4
        simp at h4
        have e3 : (x == z) = false := beq_eq_false_iff_ne.2 (by omega)
        rw [e3]
        simp; omega
theorem lessT_iff {p q : List Int} : lessT p q = true ↔ p.length < q.length ∨ (p.length = q.length ∧ lessL p q = true) := by
  unfold lessT
  rw [Bool.or_eq_true, Bool.and_eq_true, decide_eq_true_eq, decide_eq_true_eq]
theorem lessT_irr (p : List Int) : ¬ lessT p p = true := by
  rw [lessT_iff, lessL_irr]
  simp
theorem lessT_trans (p q r : List Int) (h1 : lessT p q = true) (h2 : lessT q r = true) : lessT p r = true := by
  rw [lessT_iff] at *
  rcases h1 with h1 | ⟨h1, h1'⟩ <;> rcases h2 with h2 | ⟨h2, h2'⟩
  · left; omega
  · left; omega
  · left; omega
  · exact .inr ⟨by omega, lessL_trans h1 h2 h1' h2'⟩
/-! ## Places, insertions -/
def Srt (xss : List (List Int)) : Prop := xss.Pairwise fun p q => lessT p q = true
theorem Srt.ext {xss yss : List (List Int)} (h1 : Srt xss) (h2 : Srt yss) (h : ∀ p, p ∈ xss ↔ p ∈ yss) : xss = yss :=
  ordered_ext (r := fun p q => lessT p q = true) lessT_irr lessT_trans h1 h2 h
/-! ## How many sets there are -/
/-! ## Closure systems -/
/-! ## What the program tests is just that -/
end Go.Proofs.YtfnmkbpogbekpaaGreatDoor
namespace Go.Proofs.YtfnmkbpogbekpaaGreatDoor
open Go.RowKit

end Go.Proofs.YtfnmkbpogbekpaaGreatDoor
namespace Go.Proofs.YtfnmkbpogbekpaaGreatDoor
open Go.RowKit

abbrev IdentityM : Type := (List Int × List Int)
def shIdentity : Sh IdentityM := (Sh.pair (Sh.il 3) (Sh.il 3))
theorem rdIdentity {w : World} {cs : List Value} {x : IdentityM} (h : shIdentity.rd w cs x) : ∃ (ALeft : Option Addr) (nLeft cLeft : Nat) (ARight : Option Addr) (nRight cRight : Nat), cs = [.slice ALeft nLeft cLeft, .slice ARight nRight cRight] ∧ RdL RI w ALeft nLeft x.1 ∧ RdL RI w ARight nRight x.2 := by
  obtain ⟨_, _, rfl, ⟨_, rfl, ALeft, nLeft, cLeft, rfl, rLeft⟩, ⟨_, rfl, ARight, nRight, cRight, rfl, rRight⟩⟩ := h
  exact ⟨ALeft, nLeft, cLeft, ARight, nRight, cRight, rfl, rLeft, rRight⟩
theorem mkIdentity {w : World} {x : IdentityM} {ALeft ARight : Option Addr} {nLeft cLeft nRight cRight : Nat} (hLeft : RdL RI w ALeft nLeft x.1) (hRight : RdL RI w ARight nRight x.2) : shIdentity.rd w [.slice ALeft nLeft cLeft, .slice ARight nRight cRight] x :=
  ⟨[.slice ALeft nLeft cLeft], [.slice ARight nRight cRight], rfl, ⟨_, rfl, _, _, _, rfl, hLeft⟩, ⟨_, rfl, _, _, _, rfl, hRight⟩⟩
theorem eqPIdentity (x y : IdentityM) : eqC x y = (eqC (x.1) (y.1) && eqC (x.2) (y.2)) := by
  obtain ⟨x0, x1⟩ := x
  obtain ⟨y0, y1⟩ := y
  simp only [dec_pair]
set_option linter.unusedVariables false in
set_option maxHeartbeats 4000000 in
theorem eqIdentity_any (cs ds : List Value) (x y : IdentityM) (w : World) (h : shIdentity.rd w cs x) (h' : shIdentity.rd w ds y) :
    Calls Tryz.prog 89 #[.agg cs.toArray, .agg ds.toArray] w (Bl w (.bool (eqC x y))) := by
  obtain ⟨ALeft, nLeft, cLeft, ARight, nRight, cRight, rfl, qLeft, qRight⟩ := rdIdentity h
  obtain ⟨AyLeft, nyLeft, cyLeft, AyRight, nyRight, cyRight, rfl, qyLeft, qyRight⟩ := rdIdentity h'
  obtain ⟨w0, hw0, T0, hsz0, BP, BQ⟩ := boxes2 w #[.slice ALeft nLeft cLeft, .slice ARight nRight cRight] #[.slice AyLeft nyLeft cyLeft, .slice AyRight nyRight cyRight] 55 55
  replace qLeft := qLeft.next stab_RI T0
  replace qyLeft := qyLeft.next stab_RI T0
  replace qRight := qRight.next stab_RI T0
  replace qyRight := qyRight.next stab_RI T0
  have HD := Lib.hid (eqPIdentity x y)
  go_enter Tryz.func89, Tryz.ntmps89
  rcases hd0 : eqC (x.1) (y.1) with _ | _
  · have HH0 := Lib.hid hd0
    clear hd0
    have cP0 := BP.cell 0
    have cQ0 := BQ.cell 0
    simp at cP0 cQ0
    rw [hw0] at cP0 cQ0
    go_wp2_with fail
    rw [← hw0]
    refine (bl_of_quiet (eqIntS_any _ _ _ _ _ _ _ _ _ qLeft qyLeft)).mono ?_
    rintro e w1 ⟨rfl, hb1⟩
    rw [eqL_dec]
    rw [HH0.out]
    have T1 := below_next T0 hb1 rfl
    go_wp2_with fail
    go_ret
    exact ⟨ret_bool (by rw [HD.out, HH0.out]; first | rfl | simp), T1⟩
  have HH0 := Lib.hid hd0
  clear hd0
  have cP0 := BP.cell 0
  have cQ0 := BQ.cell 0
  simp at cP0 cQ0
  rw [hw0] at cP0 cQ0
  go_wp2_with fail
  rw [← hw0]
  refine (bl_of_quiet (eqIntS_any _ _ _ _ _ _ _ _ _ qLeft qyLeft)).mono ?_
  rintro e w1 ⟨rfl, hb1⟩
  rw [eqL_dec]
  rw [HH0.out]
  have T1 := below_next T0 hb1 rfl
  clear cP0 cQ0
  replace BP := BP.next hb1
  replace BQ := BQ.next hb1
  replace qLeft := qLeft.next stab_RI hb1
  replace qyLeft := qyLeft.next stab_RI hb1
  replace qRight := qRight.next stab_RI hb1
  replace qyRight := qyRight.next stab_RI hb1
  rcases hd1 : eqC (x.2) (y.2) with _ | _
  · have HH1 := Lib.hid hd1
    clear hd1
    have cP1 := BP.cell 1
    have cQ1 := BQ.cell 1
    simp at cP1 cQ1
    go_wp2_with fail
    refine (bl_of_quiet (eqIntS_any _ _ _ _ _ _ _ _ _ qRight qyRight)).mono ?_
    rintro e w2 ⟨rfl, hb2⟩
    rw [eqL_dec]
    rw [HH1.out]
    have T2 := below_next T1 hb2 rfl
    go_wp2_with fail
    go_ret
    exact ⟨ret_bool (by rw [HD.out, HH0.out, HH1.out]; first | rfl | simp), T2⟩
  have HH1 := Lib.hid hd1
  clear hd1
  have cP1 := BP.cell 1
  have cQ1 := BQ.cell 1
  simp at cP1 cQ1
  go_wp2_with fail
  refine (bl_of_quiet (eqIntS_any _ _ _ _ _ _ _ _ _ qRight qyRight)).mono ?_
  rintro e w2 ⟨rfl, hb2⟩
  rw [eqL_dec]
  rw [HH1.out]
  have T2 := below_next T1 hb2 rfl
  clear cP1 cQ1
  replace BP := BP.next hb2
  replace BQ := BQ.next hb2
  replace qLeft := qLeft.next stab_RI hb2
  replace qyLeft := qyLeft.next stab_RI hb2
  replace qRight := qRight.next stab_RI hb2
  replace qyRight := qyRight.next stab_RI hb2
  go_wp2_with fail
  go_ret
  exact ⟨ret_bool (by rw [HD.out, HH0.out, HH1.out]; first | rfl | simp), T2⟩
end Go.Proofs.YtfnmkbpogbekpaaGreatDoor
namespace Go.Proofs.YtfnmkbpogbekpaaGreatDoor
open Go.RowKit

abbrev FactM : Type := (Int × IdentityM × List Int)
def shFact : Sh FactM := (Sh.pair Sh.int (Sh.pair shIdentity (Sh.il 3)))
theorem rdFact {w : World} {cs : List Value} {x : FactM} (h : shFact.rd w cs x) : ∃ (AEqLeft : Option Addr) (nEqLeft cEqLeft : Nat) (AEqRight : Option Addr) (nEqRight cEqRight : Nat) (AList : Option Addr) (nList cList : Nat), cs = [.int .i64 x.1, .slice AEqLeft nEqLeft cEqLeft, .slice AEqRight nEqRight cEqRight, .slice AList nList cList] ∧ InR x.1 ∧ RdL RI w AEqLeft nEqLeft x.2.1.1 ∧ RdL RI w AEqRight nEqRight x.2.1.2 ∧ RdL RI w AList nList x.2.2 := by
  obtain ⟨_, _, rfl, ⟨_, rfl, rfl, loKind, hiKind⟩, ⟨_, _, rfl, ⟨_, _, rfl, ⟨_, rfl, AEqLeft, nEqLeft, cEqLeft, rfl, rEqLeft⟩, ⟨_, rfl, AEqRight, nEqRight, cEqRight, rfl, rEqRight⟩⟩, ⟨_, rfl, AList, nList, cList, rfl, rList⟩⟩⟩ := h
  exact ⟨AEqLeft, nEqLeft, cEqLeft, AEqRight, nEqRight, cEqRight, AList, nList, cList, rfl, ⟨loKind, hiKind⟩, rEqLeft, rEqRight, rList⟩
theorem mkFact {w : World} {x : FactM} {AEqLeft AEqRight AList : Option Addr} {nEqLeft cEqLeft nEqRight cEqRight nList cList : Nat} (hKind : InR x.1) (hEqLeft : RdL RI w AEqLeft nEqLeft x.2.1.1) (hEqRight : RdL RI w AEqRight nEqRight x.2.1.2) (hList : RdL RI w AList nList x.2.2) : shFact.rd w [.int .i64 x.1, .slice AEqLeft nEqLeft cEqLeft, .slice AEqRight nEqRight cEqRight, .slice AList nList cList] x :=
  ⟨[.int .i64 x.1], [.slice AEqLeft nEqLeft cEqLeft, .slice AEqRight nEqRight cEqRight, .slice AList nList cList], rfl, ⟨_, rfl, rfl, hKind.1, hKind.2⟩, ⟨[.slice AEqLeft nEqLeft cEqLeft, .slice AEqRight nEqRight cEqRight], [.slice AList nList cList], rfl, ⟨[.slice AEqLeft nEqLeft cEqLeft], [.slice AEqRight nEqRight cEqRight], rfl, ⟨_, rfl, _, _, _, rfl, hEqLeft⟩, ⟨_, rfl, _, _, _, rfl, hEqRight⟩⟩, ⟨_, rfl, _, _, _, rfl, hList⟩⟩⟩
theorem eqPFact (x y : FactM) : eqC x y = (eqC (x.1) (y.1) && (eqC (x.2.1) (y.2.1) && eqC (x.2.2) (y.2.2))) := by
  obtain ⟨x0, x1, x2⟩ := x
  obtain ⟨y0, y1, y2⟩ := y
  simp only [dec_pair]
set_option linter.unusedVariables false in
set_option maxHeartbeats 4000000 in
theorem eqFact_any (cs ds : List Value) (x y : FactM) (w : World) (h : shFact.rd w cs x) (h' : shFact.rd w ds y) :
    Calls Tryz.prog 48 #[.agg cs.toArray, .agg ds.toArray] w (Bl w (.bool (eqC x y))) := by
  obtain ⟨AEqLeft, nEqLeft, cEqLeft, AEqRight, nEqRight, cEqRight, AList, nList, cList, rfl, qKind, qEqLeft, qEqRight, qList⟩ := rdFact h
  obtain ⟨AyEqLeft, nyEqLeft, cyEqLeft, AyEqRight, nyEqRight, cyEqRight, AyList, nyList, cyList, rfl, qyKind, qyEqLeft, qyEqRight, qyList⟩ := rdFact h'
  obtain ⟨w0, hw0, T0, hsz0, BP, BQ⟩ := boxes2 w #[.int .i64 x.1, .slice AEqLeft nEqLeft cEqLeft, .slice AEqRight nEqRight cEqRight, .slice AList nList cList] #[.int .i64 y.1, .slice AyEqLeft nyEqLeft cyEqLeft, .slice AyEqRight nyEqRight cyEqRight, .slice AyList nyList cyList] 57 57
  replace qEqLeft := qEqLeft.next stab_RI T0
  replace qyEqLeft := qyEqLeft.next stab_RI T0
  replace qEqRight := qEqRight.next stab_RI T0
  replace qyEqRight := qyEqRight.next stab_RI T0
  replace qList := qList.next stab_RI T0
  replace qyList := qyList.next stab_RI T0
  have HD := Lib.hid (eqPFact x y)
  go_enter Tryz.func48, Tryz.ntmps48
  rcases hd0 : eqC (x.1) (y.1) with _ | _
  · have ht : (x.1 != y.1) = true := neq_int hd0
    have HH0 := Lib.hid hd0
    clear hd0
    have cP0 := BP.cell 0
    have cQ0 := BQ.cell 0
    simp at cP0 cQ0
    rw [hw0] at cP0 cQ0
    go_wp2_with fail
    go_ret
    exact ⟨ret_bool (by rw [HD.out, HH0.out]; first | rfl | simp), by first | exact T0 | (rw [← hw0]; exact T0)⟩
  have ht0 : (x.1 != y.1) = false := neq_int hd0
  have HH0 := Lib.hid hd0
  clear hd0
  have cP0 := BP.cell 0
  have cQ0 := BQ.cell 0
  simp at cP0 cQ0
  rw [hw0] at cP0 cQ0
  rcases hd1 : eqC (x.2.1) (y.2.1) with _ | _
  · have HH1 := Lib.hid hd1
    clear hd1
    have cP1 := BP.cell 1
    have cQ1 := BQ.cell 1
    have cP2 := BP.cell 2
    have cQ2 := BQ.cell 2
    simp at cP1 cQ1 cP2 cQ2
    rw [hw0] at cP1 cQ1 cP2 cQ2
    go_wp2_with fail
    rw [← hw0]
    refine (eqIdentity_any [.slice AEqLeft nEqLeft cEqLeft, .slice AEqRight nEqRight cEqRight] [.slice AyEqLeft nyEqLeft cyEqLeft, .slice AyEqRight nyEqRight cyEqRight] x.2.1 y.2.1 _ (mkIdentity qEqLeft qEqRight) (mkIdentity qyEqLeft qyEqRight)).mono ?_
    rintro e w1 ⟨rfl, hb1⟩
    rw [HH1.out]
    have T1 := below_next T0 hb1 rfl
    go_wp2_with fail
    go_ret
    exact ⟨ret_bool (by rw [HD.out, HH0.out, HH1.out]; first | rfl | simp), T1⟩
  have HH1 := Lib.hid hd1
  clear hd1
  have cP1 := BP.cell 1
  have cQ1 := BQ.cell 1
  have cP2 := BP.cell 2
  have cQ2 := BQ.cell 2
  simp at cP1 cQ1 cP2 cQ2
  rw [hw0] at cP1 cQ1 cP2 cQ2
  go_wp2_with fail
  rw [← hw0]
  refine (eqIdentity_any [.slice AEqLeft nEqLeft cEqLeft, .slice AEqRight nEqRight cEqRight] [.slice AyEqLeft nyEqLeft cyEqLeft, .slice AyEqRight nyEqRight cyEqRight] x.2.1 y.2.1 _ (mkIdentity qEqLeft qEqRight) (mkIdentity qyEqLeft qyEqRight)).mono ?_
  rintro e w1 ⟨rfl, hb1⟩
  rw [HH1.out]
  have T1 := below_next T0 hb1 rfl
  clear cP1 cQ1 cP2 cQ2 cP0 cQ0 ht0
  replace BP := BP.next hb1
  replace BQ := BQ.next hb1
  replace qEqLeft := qEqLeft.next stab_RI hb1
  replace qyEqLeft := qyEqLeft.next stab_RI hb1
  replace qEqRight := qEqRight.next stab_RI hb1
  replace qyEqRight := qyEqRight.next stab_RI hb1
  replace qList := qList.next stab_RI hb1
  replace qyList := qyList.next stab_RI hb1
  rcases hd2 : eqC (x.2.2) (y.2.2) with _ | _
  · have HH2 := Lib.hid hd2
    clear hd2
    have cP3 := BP.cell 3
    have cQ3 := BQ.cell 3
    simp at cP3 cQ3
    go_wp2_with fail
    refine (bl_of_quiet (eqIntS_any _ _ _ _ _ _ _ _ _ qList qyList)).mono ?_
    rintro e w2 ⟨rfl, hb2⟩
    rw [eqL_dec]
    rw [HH2.out]
    have T2 := below_next T1 hb2 rfl
    go_wp2_with fail
    go_ret
    exact ⟨ret_bool (by rw [HD.out, HH0.out, HH1.out, HH2.out]; first | rfl | simp), T2⟩
  have HH2 := Lib.hid hd2
  clear hd2
  have cP3 := BP.cell 3
  have cQ3 := BQ.cell 3
  simp at cP3 cQ3
  go_wp2_with fail
  refine (bl_of_quiet (eqIntS_any _ _ _ _ _ _ _ _ _ qList qyList)).mono ?_
  rintro e w2 ⟨rfl, hb2⟩
  rw [eqL_dec]
  rw [HH2.out]
  have T2 := below_next T1 hb2 rfl
  clear cP3 cQ3
  replace BP := BP.next hb2
  replace BQ := BQ.next hb2
  replace qEqLeft := qEqLeft.next stab_RI hb2
  replace qyEqLeft := qyEqLeft.next stab_RI hb2
  replace qEqRight := qEqRight.next stab_RI hb2
  replace qyEqRight := qyEqRight.next stab_RI hb2
  replace qList := qList.next stab_RI hb2
  replace qyList := qyList.next stab_RI hb2
  go_wp2_with fail
  go_ret
  exact ⟨ret_bool (by rw [HD.out, HH0.out, HH1.out, HH2.out]; first | rfl | simp), T2⟩
set_option linter.unusedVariables false in
set_option maxHeartbeats 4000000 in
theorem eqFactS_any (A B : Option Addr) (n m c d : Nat) (xs ys : List FactM) (w : World) (h : RdN shFact.m shFact.rd w A n xs) (h' : RdN shFact.m shFact.rd w B m ys) :
    Calls Tryz.prog 47 #[.slice A n c, .slice B m d] w (Bl w (.bool (eqC xs ys))) := by
  have hle := h.le
  have hle' := h'.le
  by_cases hnm : n = m
  · subst hnm
    go_enter Tryz.func47, Tryz.ntmps47
    go_wp2
    go_loopw [5] (fun i wr => ∃ k : Nat, k ≤ n ∧ i = .int .i64 k ∧ EqdAt xs ys k ∧ Below w.heap.size w wr) (fun i _ => n - (intOf i).toNat)
    case atStart => exact ⟨0, Nat.zero_le _, rfl, EqdAt.start _ _, Below.refl _ _⟩
    case round =>
      obtain ⟨k, hk, rfl, H, hT⟩ := hrel
      replace h := h.next hT
      replace h' := h'.next hT
      by_cases hlt : k < n
      · obtain ⟨b, o, vs, x, rfl, -, hc, hr, hd, -⟩ := h.at hlt
        obtain ⟨b', o', vs', y, rfl, -, hc', hr', hd', -⟩ := h'.at hlt
        obtain ⟨AEqLeft, nEqLeft, cEqLeft, AEqRight, nEqRight, cEqRight, AList, nList, cList, rfl, qKind, qEqLeft, qEqRight, qList⟩ := rdFact hr
        obtain ⟨AyEqLeft, nyEqLeft, cyEqLeft, AyEqRight, nyEqRight, cyEqRight, AyList, nyList, cyList, rfl, qyKind, qyEqLeft, qyEqRight, qyList⟩ := rdFact hr'
        have cc0 : wr.cell? ⟨b, o + k * 4, none⟩ = some (.int .i64 x.1) := hc 0 _ rfl
        have dd0 : wr.cell? ⟨b', o' + k * 4, none⟩ = some (.int .i64 y.1) := hc' 0 _ rfl
        have cc1 : wr.cell? ⟨b, o + k * 4 + 1, none⟩ = some (.slice AEqLeft nEqLeft cEqLeft) := hc 1 _ rfl
        have dd1 : wr.cell? ⟨b', o' + k * 4 + 1, none⟩ = some (.slice AyEqLeft nyEqLeft cyEqLeft) := hc' 1 _ rfl
        have cc2 : wr.cell? ⟨b, o + k * 4 + 2, none⟩ = some (.slice AEqRight nEqRight cEqRight) := hc 2 _ rfl
        have dd2 : wr.cell? ⟨b', o' + k * 4 + 2, none⟩ = some (.slice AyEqRight nyEqRight cyEqRight) := hc' 2 _ rfl
        have cc3 : wr.cell? ⟨b, o + k * 4 + 3, none⟩ = some (.slice AList nList cList) := hc 3 _ rfl
        have dd3 : wr.cell? ⟨b', o' + k * 4 + 3, none⟩ = some (.slice AyList nyList cyList) := hc' 3 _ rfl
        clear hc hc'
        have H1 := Lib.hid hd
        have H2 := Lib.hid hd'
        clear hd hd'
        have hk0 : (0 : Int) ≤ (k : Int) := by omega
        have hk1 : (k : Int) < (n : Int) := by omega
        obtain ⟨e0, HE⟩ : ∃ e0, Hid (eqC x y = e0) := ⟨_, rfl⟩
        have Tk : Below wr.heap.size wr wr := Below.refl _ _
        go_upto_region 6 with fail
        go_cut [26] (fun v wx => v = .bool (!e0) ∧ Below wr.heap.size wr wx)
        case first =>
          go_region_held3 (fun w' => w'.cell? ⟨b, o + k * 4, none⟩ = some (.int .i64 x.1) ∧ w'.cell? ⟨b', o' + k * 4, none⟩ = some (.int .i64 y.1) ∧ w'.cell? ⟨b, o + k * 4 + 1, none⟩ = some (.slice AEqLeft nEqLeft cEqLeft) ∧ w'.cell? ⟨b', o' + k * 4 + 1, none⟩ = some (.slice AyEqLeft nyEqLeft cyEqLeft) ∧ w'.cell? ⟨b, o + k * 4 + 2, none⟩ = some (.slice AEqRight nEqRight cEqRight) ∧ w'.cell? ⟨b', o' + k * 4 + 2, none⟩ = some (.slice AyEqRight nyEqRight cyEqRight) ∧ w'.cell? ⟨b, o + k * 4 + 3, none⟩ = some (.slice AList nList cList) ∧ w'.cell? ⟨b', o' + k * 4 + 3, none⟩ = some (.slice AyList nyList cyList)) (first | go_keep | exact ⟨keepc Tk cc0, keepc Tk dd0, keepc Tk cc1, keepc Tk dd1, keepc Tk cc2, keepc Tk dd2, keepc Tk cc3, keepc Tk dd3⟩) ((go_at_call 48; refine (eqFact_any [.int .i64 x.1, .slice AEqLeft nEqLeft cEqLeft, .slice AEqRight nEqRight cEqRight, .slice AList nList cList] [.int .i64 y.1, .slice AyEqLeft nyEqLeft cyEqLeft, .slice AyEqRight nyEqRight cyEqRight, .slice AyList nyList cyList] x y _ (shFact.stab hr (by first | exact Tk.block | exact (Below.drew Tk).block)) (shFact.stab hr' (by first | exact Tk.block | exact (Below.drew Tk).block))).mono ?_; rintro e wn ⟨rfl, hbn⟩; replace Tk := below_next (by first | exact Tk | exact Below.drew Tk) hbn rfl; rw [HE.out]))
          all_goals (go_wp2_with fail; go_meet; exact ⟨rfl, Tk⟩)
        case rest =>
          obtain ⟨rfl, hb4⟩ := hcut
          have hT4 := below_next hT hb4 rfl
          clear hb4 Tk cc0 dd0 cc1 dd1 cc2 dd2 cc3 dd3
          rcases e0 with _ | _
          · go_wp2_with fail
            go_ret
            exact ⟨ret_bool (H.stop H1.out H2.out HE.out), hT4⟩
          · go_wp2_with fail
            go_roundw
            case rel => exact ⟨k + 1, by omega, by go_num, H.step H1.out H2.out HE.out, hT4⟩
            case measure => simp [intOf]; omega
      · have hlt' : ¬ (k : Int) < (n : Int) := by omega
        go_wp2_with fail
        go_ret
        exact ⟨ret_bool (H.done (h.drop_end hlt) (h'.drop_end hlt)), hT⟩
  · have hne : ((n : Int) != (m : Int)) = true := by rw [bne_iff_ne]; omega
    have HL := Lib.hid (eqd_len h.len h'.len hnm)
    go_enter Tryz.func47, Tryz.ntmps47
    go_wp2_with fail
    go_ret
    exact ⟨ret_bool HL.out, Below.refl _ _⟩
end Go.Proofs.YtfnmkbpogbekpaaGreatDoor
namespace Go.Proofs.YtfnmkbpogbekpaaGreatDoor
open Go.RowKit

abbrev LabStepM : Type := (Int × ByteArray × FactM × List Int × Int × Int)
def shLabStep : Sh LabStepM := (Sh.pair Sh.int (Sh.pair Sh.str (Sh.pair shFact (Sh.pair (Sh.il 3) (Sh.pair Sh.int Sh.int)))))
theorem rdLabStep {w : World} {cs : List Value} {x : LabStepM} (h : shLabStep.rd w cs x) : ∃ (AFactEqLeft : Option Addr) (nFactEqLeft cFactEqLeft : Nat) (AFactEqRight : Option Addr) (nFactEqRight cFactEqRight : Nat) (AFactList : Option Addr) (nFactList cFactList : Nat) (AList : Option Addr) (nList cList : Nat), cs = [.int .i64 x.1, .string x.2.1, .int .i64 x.2.2.1.1, .slice AFactEqLeft nFactEqLeft cFactEqLeft, .slice AFactEqRight nFactEqRight cFactEqRight, .slice AFactList nFactList cFactList, .slice AList nList cList, .int .i64 x.2.2.2.2.1, .int .i64 x.2.2.2.2.2] ∧ InR x.1 ∧ x.2.1.size ≤ maxLen ∧ InR x.2.2.1.1 ∧ RdL RI w AFactEqLeft nFactEqLeft x.2.2.1.2.1.1 ∧ RdL RI w AFactEqRight nFactEqRight x.2.2.1.2.1.2 ∧ RdL RI w AFactList nFactList x.2.2.1.2.2 ∧ RdL RI w AList nList x.2.2.2.1 ∧ InR x.2.2.2.2.1 ∧ InR x.2.2.2.2.2 := by
  obtain ⟨_, _, rfl, ⟨_, rfl, rfl, loKind, hiKind⟩, ⟨_, _, rfl, ⟨_, rfl, rfl, hsText⟩, ⟨_, _, rfl, ⟨_, _, rfl, ⟨_, rfl, rfl, loFactKind, hiFactKind⟩, ⟨_, _, rfl, ⟨_, _, rfl, ⟨_, rfl, AFactEqLeft, nFactEqLeft, cFactEqLeft, rfl, rFactEqLeft⟩, ⟨_, rfl, AFactEqRight, nFactEqRight, cFactEqRight, rfl, rFactEqRight⟩⟩, ⟨_, rfl, AFactList, nFactList, cFactList, rfl, rFactList⟩⟩⟩, ⟨_, _, rfl, ⟨_, rfl, AList, nList, cList, rfl, rList⟩, ⟨_, _, rfl, ⟨_, rfl, rfl, loA, hiA⟩, ⟨_, rfl, rfl, loB, hiB⟩⟩⟩⟩⟩⟩ := h
  exact ⟨AFactEqLeft, nFactEqLeft, cFactEqLeft, AFactEqRight, nFactEqRight, cFactEqRight, AFactList, nFactList, cFactList, AList, nList, cList, rfl, ⟨loKind, hiKind⟩, hsText, ⟨loFactKind, hiFactKind⟩, rFactEqLeft, rFactEqRight, rFactList, rList, ⟨loA, hiA⟩, ⟨loB, hiB⟩⟩
theorem mkLabStep {w : World} {x : LabStepM} {AFactEqLeft AFactEqRight AFactList AList : Option Addr} {nFactEqLeft cFactEqLeft nFactEqRight cFactEqRight nFactList cFactList nList cList : Nat} (hKind : InR x.1) (hText : x.2.1.size ≤ maxLen) (hFactKind : InR x.2.2.1.1) (hFactEqLeft : RdL RI w AFactEqLeft nFactEqLeft x.2.2.1.2.1.1) (hFactEqRight : RdL RI w AFactEqRight nFactEqRight x.2.2.1.2.1.2) (hFactList : RdL RI w AFactList nFactList x.2.2.1.2.2) (hList : RdL RI w AList nList x.2.2.2.1) (hA : InR x.2.2.2.2.1) (hB : InR x.2.2.2.2.2) : shLabStep.rd w [.int .i64 x.1, .string x.2.1, .int .i64 x.2.2.1.1, .slice AFactEqLeft nFactEqLeft cFactEqLeft, .slice AFactEqRight nFactEqRight cFactEqRight, .slice AFactList nFactList cFactList, .slice AList nList cList, .int .i64 x.2.2.2.2.1, .int .i64 x.2.2.2.2.2] x :=
  ⟨[.int .i64 x.1], [.string x.2.1, .int .i64 x.2.2.1.1, .slice AFactEqLeft nFactEqLeft cFactEqLeft, .slice AFactEqRight nFactEqRight cFactEqRight, .slice AFactList nFactList cFactList, .slice AList nList cList, .int .i64 x.2.2.2.2.1, .int .i64 x.2.2.2.2.2], rfl, ⟨_, rfl, rfl, hKind.1, hKind.2⟩, ⟨[.string x.2.1], [.int .i64 x.2.2.1.1, .slice AFactEqLeft nFactEqLeft cFactEqLeft, .slice AFactEqRight nFactEqRight cFactEqRight, .slice AFactList nFactList cFactList, .slice AList nList cList, .int .i64 x.2.2.2.2.1, .int .i64 x.2.2.2.2.2], rfl, ⟨_, rfl, rfl, hText⟩, ⟨[.int .i64 x.2.2.1.1, .slice AFactEqLeft nFactEqLeft cFactEqLeft, .slice AFactEqRight nFactEqRight cFactEqRight, .slice AFactList nFactList cFactList], [.slice AList nList cList, .int .i64 x.2.2.2.2.1, .int .i64 x.2.2.2.2.2], rfl, ⟨[.int .i64 x.2.2.1.1], [.slice AFactEqLeft nFactEqLeft cFactEqLeft, .slice AFactEqRight nFactEqRight cFactEqRight, .slice AFactList nFactList cFactList], rfl, ⟨_, rfl, rfl, hFactKind.1, hFactKind.2⟩, ⟨[.slice AFactEqLeft nFactEqLeft cFactEqLeft, .slice AFactEqRight nFactEqRight cFactEqRight], [.slice AFactList nFactList cFactList], rfl, ⟨[.slice AFactEqLeft nFactEqLeft cFactEqLeft], [.slice AFactEqRight nFactEqRight cFactEqRight], rfl, ⟨_, rfl, _, _, _, rfl, hFactEqLeft⟩, ⟨_, rfl, _, _, _, rfl, hFactEqRight⟩⟩, ⟨_, rfl, _, _, _, rfl, hFactList⟩⟩⟩, ⟨[.slice AList nList cList], [.int .i64 x.2.2.2.2.1, .int .i64 x.2.2.2.2.2], rfl, ⟨_, rfl, _, _, _, rfl, hList⟩, ⟨[.int .i64 x.2.2.2.2.1], [.int .i64 x.2.2.2.2.2], rfl, ⟨_, rfl, rfl, hA.1, hA.2⟩, ⟨_, rfl, rfl, hB.1, hB.2⟩⟩⟩⟩⟩⟩
end Go.Proofs.YtfnmkbpogbekpaaGreatDoor
namespace Go.Proofs.YtfnmkbpogbekpaaGreatDoor
open Go.RowKit

def noEq (e : IdentityM) : Bool := decide ((e.1.length : Int) = 0) && decide ((e.2.length : Int) = 0)
def noFact (f : FactM) : Bool := decide (f.1 = 0) && (noEq f.2.1 && decide ((f.2.2.length : Int) = 0))
/-- What a step must have: which of its fields may be other than zero. -/
noncomputable def plainB (s : LabStepM) (tx fa li aa bb : Bool) : Bool := (tx || eqC s.2.1 ⟨#[]⟩) && ((fa || noFact s.2.2.1) && ((li || decide ((s.2.2.2.1.length : Int) = 0)) && ((aa || decide (s.2.2.2.2.1 = 0)) && (bb || decide (s.2.2.2.2.2 = 0)))))
theorem str_nil (s : ByteArray) : s.toList.isEmpty = eqC s ⟨#[]⟩ := by
  rw [ByteArray.toList_eq]
  rcases h : eqC s ⟨#[]⟩ with _ | _
  · rw [eqC_no] at h
    rcases h2 : s.data.toList with _ | ⟨a, l⟩
    · exfalso
      exact h (bs_inj (by unfold bs; rw [h2]))
    · rfl
  · rw [eqC_iff] at h
    rw [h]
    rfl
theorem str_nil' (s : ByteArray) : (s.toList == (⟨#[]⟩ : ByteArray).toList) = eqC s ⟨#[]⟩ := eqq_str rfl
noncomputable def stepB (s : LabStepM) : Bool :=
  if s.1 = 1 then plainB s true false false false false
  else if s.1 = 2 then plainB s false true false false false
  else if s.1 = 3 ∨ s.1 = 4 then plainB s false false false true true && (decide (0 ≤ s.2.2.2.2.1) && decide (0 ≤ s.2.2.2.2.2))
  else if s.1 = 5 then plainB s false false false true false && decide (0 ≤ s.2.2.2.2.1)
  else if s.1 = 6 then plainB s false false true false false
  else if s.1 = 7 then plainB s false false false false false
  else false

theorem stepB_at (s : LabStepM) (k : Int) (h : s.1 = k) : stepB s = (if k = 1 then plainB s true false false false false
  else if k = 2 then plainB s false true false false false
  else if k = 3 ∨ k = 4 then plainB s false false false true true && (decide (0 ≤ s.2.2.2.2.1) && decide (0 ≤ s.2.2.2.2.2))
  else if k = 5 then plainB s false false false true false && decide (0 ≤ s.2.2.2.2.1)
  else if k = 6 then plainB s false false true false false
  else if k = 7 then plainB s false false false false false
  else false) := by subst h; rfl
theorem noFact_zero (x : FactM) : noFact x = eqC x (0, ([], []), []) := by
  rw [Bool.eq_iff_iff, eqC_iff]
  obtain ⟨k, ⟨l, r⟩, t⟩ := x
  simp [noFact, noEq, List.length_eq_zero_iff]
set_option maxHeartbeats 2000000 in
theorem sameEq_any (cs ds : List Value) (x y : IdentityM) (w : World) (h : shIdentity.rd w cs x) (h' : shIdentity.rd w ds y) : Calls Tryz.prog 183 #[.agg cs.toArray, .agg ds.toArray] w (Bl w (.bool (eqC x y))) := by
  obtain ⟨ALeft, nLeft, cLeft, ARight, nRight, cRight, rfl, qLeft, qRight⟩ := rdIdentity h
  obtain ⟨AyLeft, nyLeft, cyLeft, AyRight, nyRight, cyRight, rfl, qyLeft, qyRight⟩ := rdIdentity h'
  obtain ⟨w0, hw0, T0, hsz0, BP, BQ⟩ := boxes2 w #[.slice ALeft nLeft cLeft, .slice ARight nRight cRight] #[.slice AyLeft nyLeft cyLeft, .slice AyRight nyRight cyRight] 55 55
  have HD := Lib.hid (eqPIdentity x y)
  rcases h1 : eqC x.1 y.1 with _ | _
  · have H1 := Lib.hid h1
    clear h1
    go_enter Tryz.func183, Tryz.ntmps183
    go_wp2_with fail
    rw [← hw0]
    refine (bl_same (sameList_any _ _ _ _ _ _ _ _ _ (qLeft.next stab_RI T0) (qyLeft.next stab_RI T0))).mono ?_
    rintro e w1 ⟨rfl, hb1⟩
    rw [eqL_dec, H1.out]
    have T1 := below_next T0 hb1 rfl
    go_wp2_with fail
    go_ret
    exact ⟨ret_bool (by rw [HD.out, H1.out]; rfl), T1⟩
  · rcases h2 : eqC x.2 y.2 with _ | _
    all_goals
      have H1 := Lib.hid h1
      have H2 := Lib.hid h2
      clear h2
      go_enter Tryz.func183, Tryz.ntmps183
      go_wp2_with fail
      rw [← hw0]
      refine (bl_same (sameList_any _ _ _ _ _ _ _ _ _ (qLeft.next stab_RI T0) (qyLeft.next stab_RI T0))).mono ?_
      rintro e w1 ⟨rfl, hb1⟩
      rw [eqL_dec, H1.out]
      have T1 := below_next T0 hb1 rfl
      have BP1 := BP.next hb1
      have BQ1 := BQ.next hb1
      have cP := BP1.cell 1
      have cQ := BQ1.cell 1
      simp at cP cQ
      go_wp2_with fail
      refine (bl_same (sameList_any _ _ _ _ _ _ _ _ _ (qRight.next stab_RI T1) (qyRight.next stab_RI T1))).mono ?_
      rintro e w2 ⟨rfl, hb2⟩
      rw [eqL_dec, H2.out]
      have T2 := below_next T1 hb2 rfl
      go_wp2_with fail
      go_ret
      exact ⟨ret_bool (by rw [HD.out, H1.out, H2.out]; rfl), T2⟩
set_option maxHeartbeats 4000000 in
theorem sameFact_any (cs ds : List Value) (x y : FactM) (w : World) (h : shFact.rd w cs x) (h' : shFact.rd w ds y) : Calls Tryz.prog 134 #[.agg cs.toArray, .agg ds.toArray] w (Bl w (.bool (eqC x y))) := by
  obtain ⟨AEqLeft, nEqLeft, cEqLeft, AEqRight, nEqRight, cEqRight, AList, nList, cList, rfl, qKind, qEqLeft, qEqRight, qList⟩ := rdFact h
  obtain ⟨AyEqLeft, nyEqLeft, cyEqLeft, AyEqRight, nyEqRight, cyEqRight, AyList, nyList, cyList, rfl, qyKind, qyEqLeft, qyEqRight, qyList⟩ := rdFact h'
  obtain ⟨w0, hw0, T0, hsz0, BP, BQ⟩ := boxes2 w #[.int .i64 x.1, .slice AEqLeft nEqLeft cEqLeft, .slice AEqRight nEqRight cEqRight, .slice AList nList cList] #[.int .i64 y.1, .slice AyEqLeft nyEqLeft cyEqLeft, .slice AyEqRight nyEqRight cyEqRight, .slice AyList nyList cyList] 57 57
  have HD := Lib.hid (eqPFact x y)
  have rE := mkIdentity (x := x.2.1) (cLeft := cEqLeft) (cRight := cEqRight) (qEqLeft.next stab_RI T0) (qEqRight.next stab_RI T0)
  have rE' := mkIdentity (x := y.2.1) (cLeft := cyEqLeft) (cRight := cyEqRight) (qyEqLeft.next stab_RI T0) (qyEqRight.next stab_RI T0)
  rcases h0 : eqC x.1 y.1 with _ | _
  · have H0 := Lib.hid h0
    have ht : (x.1 == y.1) = false := by rw [← h0, eqC_dec]; rfl
    clear h0
    go_enter Tryz.func134, Tryz.ntmps134
    go_wp2_with fail
    go_ret
    exact ⟨ret_bool (by rw [HD.out, H0.out]; rfl), by rw [← hw0]; exact T0⟩
  · have H0 := Lib.hid h0
    have ht : (x.1 == y.1) = true := by rw [← h0, eqC_dec]; rfl
    clear h0
    rcases h1 : eqC x.2.1 y.2.1 with _ | _
    · have H1 := Lib.hid h1
      clear h1
      go_enter Tryz.func134, Tryz.ntmps134
      go_wp2_with fail
      rw [← hw0]
      refine (sameEq_any _ _ _ _ _ rE rE').mono ?_
      rintro e w1 ⟨rfl, hb1⟩
      rw [H1.out]
      have T1 := below_next T0 hb1 rfl
      go_wp2_with fail
      go_ret
      exact ⟨ret_bool (by rw [HD.out, H0.out, H1.out]; rfl), T1⟩
    · rcases h2 : eqC x.2.2 y.2.2 with _ | _
      all_goals
        have H1 := Lib.hid h1
        have H2 := Lib.hid h2
        clear h2
        go_enter Tryz.func134, Tryz.ntmps134
        go_wp2_with fail
        rw [← hw0]
        refine (sameEq_any _ _ _ _ _ rE rE').mono ?_
        rintro e w1 ⟨rfl, hb1⟩
        rw [H1.out]
        have T1 := below_next T0 hb1 rfl
        have BP1 := BP.next hb1
        have BQ1 := BQ.next hb1
        have cP := BP1.cell 3
        have cQ := BQ1.cell 3
        simp at cP cQ
        go_wp2_with fail
        refine (bl_same (sameList_any _ _ _ _ _ _ _ _ _ (qList.next stab_RI T1) (qyList.next stab_RI T1))).mono ?_
        rintro e w2 ⟨rfl, hb2⟩
        rw [eqL_dec, H2.out]
        have T2 := below_next T1 hb2 rfl
        go_wp2_with fail
        go_ret
        exact ⟨ret_bool (by rw [HD.out, H0.out, H1.out, H2.out]; rfl), T2⟩
theorem zeroFact (w : World) : shFact.rd w [.int .i64 0, .slice none 0 0, .slice none 0 0, .slice none 0 0] ((0, ([], []), []) : FactM) :=
  mkFact (x := ((0, ([], []), []) : FactM)) ⟨by decide, by decide⟩ (RdL.nil _ _ _) (RdL.nil _ _ _) (RdL.nil _ _ _)
set_option maxHeartbeats 2000000 in
theorem isZeroFact_any (cs : List Value) (x : FactM) (w : World) (h : shFact.rd w cs x) : Calls Tryz.prog 77 #[.agg cs.toArray] w (Bl w (.bool (noFact x))) := by
  obtain ⟨AEqLeft, nEqLeft, cEqLeft, AEqRight, nEqRight, cEqRight, AList, nList, cList, rfl, qKind, qEqLeft, qEqRight, qList⟩ := rdFact h
  obtain ⟨w0, hw0, T0, hsz0, BP⟩ := boxes1 w #[.int .i64 x.1, .slice AEqLeft nEqLeft cEqLeft, .slice AEqRight nEqRight cEqRight, .slice AList nList cList] 57
  have r0 := shFact.stab h T0.block
  go_enter Tryz.func77, Tryz.ntmps77
  go_wp2_with fail
  rw [← hw0]
  refine (sameFact_any _ _ _ _ _ r0 (zeroFact _)).mono ?_
  rintro e w1 ⟨rfl, hb1⟩
  have T1 := below_next T0 hb1 rfl
  have HZ := Lib.hid (noFact_zero x).symm
  go_wp2_with fail
  go_ret
  exact ⟨ret_bool HZ.out, T1⟩
set_option maxRecDepth 20000 in
set_option maxHeartbeats 16000000 in
theorem implIsLabStep_any (cs : List Value) (s : LabStepM) (w : World) (h : shLabStep.rd w cs s) : Calls Tryz.prog 42 #[.agg cs.toArray] w (Bl w (.bool (stepB s))) := by
  obtain ⟨AFactEqLeft, nFactEqLeft, cFactEqLeft, AFactEqRight, nFactEqRight, cFactEqRight, AFactList, nFactList, cFactList, AList, nList, cList, rfl, qKind, qText, qFactKind, qFactEqLeft, qFactEqRight, qFactList, qList, qA, qB⟩ := rdLabStep h
  obtain ⟨w0, hw0, T0, hsz0, BP⟩ := boxes1 w #[.int .i64 s.1, .string s.2.1, .int .i64 s.2.2.1.1, .slice AFactEqLeft nFactEqLeft cFactEqLeft, .slice AFactEqRight nFactEqRight cFactEqRight, .slice AFactList nFactList cFactList, .slice AList nList cList, .int .i64 s.2.2.2.2.1, .int .i64 s.2.2.2.2.2] 59
  have rF := mkFact (x := s.2.2.1) (cEqLeft := cFactEqLeft) (cEqRight := cFactEqRight) (cList := cFactList) qFactKind (qFactEqLeft.next stab_RI T0) (qFactEqRight.next stab_RI T0) (qFactList.next stab_RI T0)
  have HX : ∀ tx fa li aa bb, Hid (plainB s tx fa li aa bb = ((tx || eqC s.2.1 ⟨#[]⟩) && ((fa || noFact s.2.2.1) && ((li || ((nList : Int) == 0)) && ((aa || (s.2.2.2.2.1 == 0)) && (bb || (s.2.2.2.2.2 == 0))))))) := fun tx fa li aa bb => by show _ = _; unfold plainB; rw [qList.len]; rfl
  obtain ⟨t, HT⟩ : ∃ b, eqC s.2.1 ⟨#[]⟩ = b := ⟨_, rfl⟩
  obtain ⟨f, HF⟩ : ∃ b, Hid (noFact s.2.2.1 = b) := ⟨_, rfl⟩
  obtain ⟨l, hl⟩ : ∃ b, ((nList : Int) == 0) = b := ⟨_, rfl⟩
  obtain ⟨a, ha⟩ : ∃ b, (s.2.2.2.2.1 == 0) = b := ⟨_, rfl⟩
  obtain ⟨b, hb⟩ : ∃ b, (s.2.2.2.2.2 == 0) = b := ⟨_, rfl⟩
  have ht1 := (str_nil s.2.1).trans HT
  have ht2 := (str_nil' s.2.1).trans HT
  have HT' := Lib.hid HT
  clear HT
  have HY : ∀ tx fa li aa bb, Hid (plainB s tx fa li aa bb = ((tx || t) && ((fa || f) && ((li || l) && ((aa || a) && (bb || b)))))) := fun tx fa li aa bb => by show _ = _; rw [(HX tx fa li aa bb).out, HT'.out, HF.out, hl, ha, hb]
  clear HX
  go_enter Tryz.func42, Tryz.ntmps42
  go_upto_region 1 with fail
  rw [← hw0]
  clear hw0
  have c1 := BP.cell 1
  have c2 := BP.cell 2
  have c3 := BP.cell 3
  have c4 := BP.cell 4
  have c5 := BP.cell 5
  have c6 := BP.cell 6
  have c8 := BP.cell 8
  simp at c1 c2 c3 c4 c5 c6 c8
  have Tk : Below w0.heap.size w0 w0 := Below.refl _ _
  go_cut [3, 4, 5, 6] (fun v3 v4 v5 v6 wx => v3 = .bool t ∧ v4 = .bool f ∧ v5 = .bool l ∧ v6 = .bool b ∧ Below w0.heap.size w0 wx)
  case first =>
    go_region_held3 (fun w' => w'.cell? ⟨w.heap.size, 1, none⟩ = some (.string s.2.1) ∧ w'.cell? ⟨w.heap.size, 2, none⟩ = some (.int .i64 s.2.2.1.1) ∧ w'.cell? ⟨w.heap.size, 3, none⟩ = some (.slice AFactEqLeft nFactEqLeft cFactEqLeft) ∧ w'.cell? ⟨w.heap.size, 4, none⟩ = some (.slice AFactEqRight nFactEqRight cFactEqRight) ∧ w'.cell? ⟨w.heap.size, 5, none⟩ = some (.slice AFactList nFactList cFactList) ∧ w'.cell? ⟨w.heap.size, 6, none⟩ = some (.slice AList nList cList) ∧ w'.cell? ⟨w.heap.size, 8, none⟩ = some (.int .i64 s.2.2.2.2.2)) (first | go_keep | exact ⟨keepc Tk c1, keepc Tk c2, keepc Tk c3, keepc Tk c4, keepc Tk c5, keepc Tk c6, keepc Tk c8⟩) ((go_at_call 77; refine (isZeroFact_any [.int .i64 s.2.2.1.1, .slice AFactEqLeft nFactEqLeft cFactEqLeft, .slice AFactEqRight nFactEqRight cFactEqRight, .slice AFactList nFactList cFactList] s.2.2.1 _ (shFact.stab rF (by first | exact Tk.block | exact (Below.drew Tk).block))).mono ?_; rintro e wn ⟨rfl, hbn⟩; replace Tk := below_next (by first | exact Tk | exact Below.drew Tk) hbn rfl; rw [HF.out]))
    all_goals (go_wp2_with fail; go_meet; exact ⟨rfl, rfl, rfl, rfl, Tk⟩)
  case rest =>
    obtain ⟨rfl, rfl, rfl, rfl, hb4⟩ := hcut
    obtain ⟨w4, HWC⟩ : ∃ wq : World, wq = wc := ⟨_, rfl⟩
    subst HWC
    have T4 := below_next T0 hb4 rfl
    replace BP := BP.next hb4
    clear hb4 Tk c1 c2 c3 c4 c5 c6 c8 ht1 ht2 hl hb
    have c0 := BP.cell 0
    have c7 := BP.cell 7
    have c8 := BP.cell 8
    simp at c0 c7 c8
    by_cases k1 : s.1 = 1
    · have HM : Hid (stepB s = (f && (l && (a && b)))) := by
        show _ = _
        rw [stepB_at s 1 k1]
        simp [(HY _ _ _ _ _).out]
      have e1 : (s.1 == 1) = true := by simp; omega
      clear k1
      go_wp2
      all_goals
        go_ret
        exact ⟨ret_bool (by refine Eq.trans ?_ HM.out.symm; first | rfl | (simp; done) | (simp [*]; done) | (simp; omega) | (simp [*]; omega)), T4⟩
    by_cases k2 : s.1 = 2
    · have HM : Hid (stepB s = (t && (l && (a && b)))) := by
        show _ = _
        rw [stepB_at s 2 k2]
        simp [(HY _ _ _ _ _).out]
      have e1 : (s.1 == 1) = false := by simp; omega
      have e2 : (s.1 == 2) = true := by simp; omega
      clear k1 k2
      go_wp2
      all_goals
        go_ret
        exact ⟨ret_bool (by refine Eq.trans ?_ HM.out.symm; first | rfl | (simp; done) | (simp [*]; done) | (simp; omega) | (simp [*]; omega)), T4⟩
    by_cases k3 : s.1 = 3
    · have HM : Hid (stepB s = ((t && (f && l)) && (decide (0 ≤ s.2.2.2.2.1) && decide (0 ≤ s.2.2.2.2.2)))) := by
        show _ = _
        rw [stepB_at s 3 k3]
        simp [(HY _ _ _ _ _).out]
      have e1 : (s.1 == 1) = false := by simp; omega
      have e2 : (s.1 == 2) = false := by simp; omega
      have e3 : (s.1 == 3) = true := by simp; omega
      clear k1 k2 k3
      go_wp2
      all_goals
        go_ret
        exact ⟨ret_bool (by refine Eq.trans ?_ HM.out.symm; first | rfl | (simp; done) | (simp [*]; done) | (simp; omega) | (simp [*]; omega)), T4⟩
    by_cases k4 : s.1 = 4
    · have HM : Hid (stepB s = ((t && (f && l)) && (decide (0 ≤ s.2.2.2.2.1) && decide (0 ≤ s.2.2.2.2.2)))) := by
        show _ = _
        rw [stepB_at s 4 k4]
        simp [(HY _ _ _ _ _).out]
      have e1 : (s.1 == 1) = false := by simp; omega
      have e2 : (s.1 == 2) = false := by simp; omega
      have e3 : (s.1 == 3) = false := by simp; omega
      have e4 : (s.1 == 4) = true := by simp; omega
      clear k1 k2 k3 k4
      go_wp2
      all_goals
        go_ret
        exact ⟨ret_bool (by refine Eq.trans ?_ HM.out.symm; first | rfl | (simp; done) | (simp [*]; done) | (simp; omega) | (simp [*]; omega)), T4⟩
    by_cases k5 : s.1 = 5
    · have HM : Hid (stepB s = ((t && (f && (l && b))) && decide (0 ≤ s.2.2.2.2.1))) := by
        show _ = _
        rw [stepB_at s 5 k5]
        simp [(HY _ _ _ _ _).out]
      have e1 : (s.1 == 1) = false := by simp; omega
      have e2 : (s.1 == 2) = false := by simp; omega
      have e3 : (s.1 == 3) = false := by simp; omega
      have e4 : (s.1 == 4) = false := by simp; omega
      have e5 : (s.1 == 5) = true := by simp; omega
      clear k1 k2 k3 k4 k5
      go_wp2
      all_goals
        go_ret
        exact ⟨ret_bool (by refine Eq.trans ?_ HM.out.symm; first | rfl | (simp; done) | (simp [*]; done) | (simp; omega) | (simp [*]; omega)), T4⟩
    by_cases k6 : s.1 = 6
    · have HM : Hid (stepB s = (t && (f && (a && b)))) := by
        show _ = _
        rw [stepB_at s 6 k6]
        simp [(HY _ _ _ _ _).out]
      have e1 : (s.1 == 1) = false := by simp; omega
      have e2 : (s.1 == 2) = false := by simp; omega
      have e3 : (s.1 == 3) = false := by simp; omega
      have e4 : (s.1 == 4) = false := by simp; omega
      have e5 : (s.1 == 5) = false := by simp; omega
      have e6 : (s.1 == 6) = true := by simp; omega
      clear k1 k2 k3 k4 k5 k6
      go_wp2
      all_goals
        go_ret
        exact ⟨ret_bool (by refine Eq.trans ?_ HM.out.symm; first | rfl | (simp; done) | (simp [*]; done) | (simp; omega) | (simp [*]; omega)), T4⟩
    by_cases k7 : s.1 = 7
    · have HM : Hid (stepB s = (t && (f && (l && (a && b))))) := by
        show _ = _
        rw [stepB_at s 7 k7]
        simp [(HY _ _ _ _ _).out]
      have e1 : (s.1 == 1) = false := by simp; omega
      have e2 : (s.1 == 2) = false := by simp; omega
      have e3 : (s.1 == 3) = false := by simp; omega
      have e4 : (s.1 == 4) = false := by simp; omega
      have e5 : (s.1 == 5) = false := by simp; omega
      have e6 : (s.1 == 6) = false := by simp; omega
      have e7 : (s.1 == 7) = true := by simp; omega
      clear k1 k2 k3 k4 k5 k6 k7
      go_wp2
      all_goals
        go_ret
        exact ⟨ret_bool (by refine Eq.trans ?_ HM.out.symm; first | rfl | (simp; done) | (simp [*]; done) | (simp; omega) | (simp [*]; omega)), T4⟩
    · have HM : Hid (stepB s = false) := by show _ = _; unfold stepB; rw [if_neg k1, if_neg k2, if_neg (by omega), if_neg k5, if_neg k6, if_neg k7]
      have e1 : (s.1 == 1) = false := by simp; omega
      have e2 : (s.1 == 2) = false := by simp; omega
      have e3 : (s.1 == 3) = false := by simp; omega
      have e4 : (s.1 == 4) = false := by simp; omega
      have e5 : (s.1 == 5) = false := by simp; omega
      have e6 : (s.1 == 6) = false := by simp; omega
      have e7 : (s.1 == 7) = false := by simp; omega
      clear k1 k2 k3 k4 k5 k6 k7
      go_wp2
      all_goals
        go_ret
        exact ⟨ret_bool (by refine Eq.trans ?_ HM.out.symm; first | rfl | (simp; done) | (simp [*]; done) | (simp; omega) | (simp [*]; omega)), T4⟩
end Go.Proofs.YtfnmkbpogbekpaaGreatDoor
