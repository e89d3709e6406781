import Derived.Test.YtbkgbckbbnflpaaGreatQ3
import Derived.Laws.OwnMore
set_option linter.unusedVariables false
set_option linter.unusedSimpArgs false
set_option maxRecDepth 100000
set_option maxHeartbeats 32000000
namespace Go.Proofs.YtbkgbckbbnflpaaGreat
open Go.RowKit
/-- A matrix of the call's own, with one row more. -/
theorem OwM.pushK {α : Type} {eo ei : TypeId} {f : α → Value} {lo : Nat} {w w1 : World} {v : Value} {n : Nat} {xss : List (List α)} (hne : eo ≠ ei) (h : OwM eo ei f lo w v n xss) (hb : ∀ {lo size n : Nat} {e : TypeId} {v : Value} {xs : List Value}, w.ownsRow lo e size v n xs → w1.ownsRow lo e size v n xs) (hlo : lo ≤ w.heap.size) {u : Value} {xs : List α} (hu : w1.ownsRow w.heap.size ei 1 u xs.length (xs.map f)) :
    ∃ vs, w1.ownsRow lo eo 1 v n vs ∧ ∀ {w2 : World} {v' : Value}, w2.ownsRow lo eo 1 v' (n + 1) (vs ++ [u]) → w1.grownBy w2 v.ownBlock → OwM eo ei f lo w2 v' (n + 1) (xss ++ [xs]) := by
  obtain ⟨vs, h1, h2, h3, h4⟩ := h
  have hk1 := hb h1
  refine ⟨vs, hk1, fun {w2 v'} hown hg => ⟨vs ++ [u], hown, by simp [h2], ?_, ?_⟩⟩
  · have far : ∀ {base : Nat} {y : Value} {ys : List α}, w1.ownsRow base ei 1 y ys.length (ys.map f) → w2.ownsRow base ei 1 y ys.length (ys.map f) := fun ho =>
      own_same ho fun b hb => hg.block b (ho.lt b hb).2 (fun e => own_ne ho hk1 hne.symm hb e.symm)
    intro k y ys hy hx
    by_cases hk : k < vs.length
    · rw [List.getElem?_append_left hk] at hy
      rw [List.getElem?_append_left (by omega)] at hx
      exact far (hb (h3 k y ys hy hx))
    · have hk2 : k = vs.length := by
        have := (List.getElem?_eq_some_iff.1 hy).1
        simp at this
        omega
      subst hk2
      rw [List.getElem?_append_right (Nat.le_refl _)] at hy
      rw [h2, List.getElem?_append_right (Nat.le_refl _)] at hx
      simp at hy hx
      subst hy
      subst hx
      exact far (own_mono hu hlo)
  · rw [List.filterMap_append]
    cases hub : u.ownBlock with
    | none => simpa [hub] using h4
    | some g =>
      simp only [List.filterMap_cons, hub, List.filterMap_nil]
      rw [List.nodup_append]
      refine ⟨h4, by simp, fun a ha b hb' => ?_⟩
      simp at hb'
      subst hb'
      obtain ⟨y, hy, hyb⟩ := List.mem_filterMap.1 ha
      obtain ⟨k, hk⟩ := List.getElem?_of_mem hy
      have hkl : k < xss.length := by rw [← h2]; exact (List.getElem?_eq_some_iff.1 hk).1
      have h5 := ((h3 k y _ hk (List.getElem?_eq_getElem hkl)).lt a hyb).2
      have h6 := (hu.lt b hub).1
      omega
theorem OwM.push {α : Type} {eo ei : TypeId} {f : α → Value} {lo : Nat} {w w1 : World} {v : Value} {n : Nat} {xss : List (List α)} (hne : eo ≠ ei) (h : OwM eo ei f lo w v n xss) (hb : Below w.heap.size w w1) (hlo : lo ≤ w.heap.size) {u : Value} {xs : List α} (hu : w1.ownsRow w.heap.size ei 1 u xs.length (xs.map f)) :
    ∃ vs, w1.ownsRow lo eo 1 v n vs ∧ ∀ {w2 : World} {v' : Value}, w2.ownsRow lo eo 1 v' (n + 1) (vs ++ [u]) → w1.grownBy w2 v.ownBlock → OwM eo ei f lo w2 v' (n + 1) (xss ++ [xs]) := h.pushK hne (fun k => own_next k hb) hlo hu
theorem mat_lit {w w1 : World} (h : Below w.heap.size w w1) : OwM 27 3 (.int .i64) w.heap.size (w1.alloc (.cells #[] 27)) (.slice (some ⟨w1.heap.size, 0, none⟩) 0 0) 0 [] :=
  ⟨[], World.ownsRow_lit _ _ _ h.size (Nat.zero_le _) rfl, rfl, fun k u xs hu => by simp at hu, by simp⟩
section
variable {w w' : World} {base : Nat} {e : TypeId} {size : Nat} {v : Value} {n : Nat} {xs : List Value}
end
/-- The call hands back a matrix of its own and a bool. -/
def OwnMB (w : World) (xss : List (List Int)) (b : Bool) (e : Ending) (w' : World) : Prop := ∃ A n c, e = .returned (.tuple #[.slice A n c, .bool b]) ∧ OwM 27 3 (.int .i64) w.heap.size w' (.slice A n c) n xss ∧ Below w.heap.size w w'
/-- The call hands back a slice of slices that reads so, and a bool. -/
def RdMB (w : World) (xss : List (List Int)) (b : Bool) (e : Ending) (w' : World) : Prop := ∃ A n c, e = .returned (.tuple #[.slice A n c, .bool b]) ∧ RdL (RV RI) w' A n xss ∧ Below w.heap.size w w'
section
theorem bits8_bd : ∀ m, m < 256 → ∀ x ∈ bitsTo m 8, 0 ≤ x ∧ x ≤ 7 := by decide +kernel
def valB : List Int → Nat
  | [] => 0
  | x :: l => 2 ^ x.toNat + valB l
theorem bits8_val : ∀ m, m < 256 → valB (bitsTo m 8) = m := by decide +kernel
theorem bits8_inj {a b : Nat} (ha : a < 256) (hb : b < 256) (h : bitsTo a 8 = bitsTo b 8) : a = b := by rw [← bits8_val a ha, ← bits8_val b hb, h]
theorem insT_lenP (p : List Int) (xss : List (List Int)) : (insT p xss).length = xss.length + 1 := by
  rw [insT, List.length_append, List.length_cons, List.length_take, List.length_drop]
  omega
variable {P : List Int → Bool}
/-- The sets with the property among the first m masks. -/
def selA (P : List Int → Bool) : Nat → List (List Int)
  | 0 => []
  | m + 1 => selA P m ++ (if P (bitsTo m 8) then [bitsTo m 8] else [])
/-- The same, each put in its place. -/
def insA (P : List Int → Bool) : Nat → List (List Int)
  | 0 => []
  | m + 1 => if P (bitsTo m 8) then insT (bitsTo m 8) (insA P m) else insA P m
theorem selA_len (P : List Int → Bool) : ∀ m, (selA P m).length ≤ m
  | 0 => Nat.le_refl _
  | m + 1 => by
    have := selA_len P m
    rw [selA, List.length_append]
    split
    · simp; omega
    · simp; omega
theorem selA_mem : ∀ {k : Nat}, k ≤ 256 → ∀ x, x ∈ selA P k ↔ ∃ j, j < k ∧ x = bitsTo j 8 ∧ P x = true
  | 0, _, x => by simp [selA]
  | k + 1, hk, x => by
    rw [selA, List.mem_append, selA_mem (by omega)]
    constructor
    · rintro (⟨j, h1, h2, h3⟩ | h)
      · exact ⟨j, by omega, h2, h3⟩
      · split at h
        · rename_i hp
          rw [List.mem_singleton.1 h]
          exact ⟨k, by omega, rfl, hp⟩
        · simp at h
    · rintro ⟨j, h1, h2, h3⟩
      by_cases e : j = k
      · subst e
        right
        rw [← h2, if_pos h3]
        simp
      · exact .inl ⟨j, by omega, h2, h3⟩
theorem selA_bd (P : List Int → Bool) {m : Nat} (hm : m ≤ 256) : ∀ xs ∈ selA P m, ∀ x ∈ xs, ∀ wz : World, RI wz (.int .i64 x) x := fun xs h x hx wz => by
  obtain ⟨j, h1, rfl, -⟩ := (selA_mem hm xs).1 h
  have := bits8_bd j (by omega) x hx
  exact ⟨rfl, by omega, by omega⟩
theorem insA_mem : ∀ (m : Nat) (p : List Int), p ∈ insA P m ↔ p ∈ selA P m
  | 0, p => by simp [insA, selA]
  | m + 1, p => by
    rw [insA, selA]
    split
    · rw [mem_insT, insA_mem m p, List.mem_append, List.mem_singleton]
      exact Or.comm
    · rw [insA_mem m p, List.append_nil]
theorem insA_len (P : List Int → Bool) : ∀ m, (insA P m).length ≤ m
  | 0 => Nat.le_refl _
  | m + 1 => by
    have := insA_len P m
    rw [insA]
    split
    · rw [insT_lenP]; omega
    · omega
theorem insA_srt : ∀ m, m ≤ 256 → Srt (insA P m)
  | 0, _ => List.Pairwise.nil
  | m + 1, hm => by
    have ih := insA_srt m (by omega)
    rw [insA]
    split
    · refine ih.insT fun h => ?_
      obtain ⟨j, h1, h2, -⟩ := (selA_mem (by omega) _).1 ((insA_mem m _).1 h)
      have := bits8_inj (by omega) (by omega) h2
      omega
    · exact ih
theorem selA_nodup (P : List Int → Bool) : ∀ m, m ≤ 256 → (selA P m).Nodup
  | 0, _ => List.nodup_nil
  | m + 1, hm => by
    rw [selA, List.nodup_append]
    refine ⟨selA_nodup P m (by omega), ?_, fun a ha b hb e => ?_⟩
    · split <;> simp
    · split at hb
      · rw [List.mem_singleton.1 hb] at e
        obtain ⟨j, h1, h2, -⟩ := (selA_mem (by omega) a).1 ha
        have := bits8_inj (by omega) (by omega) (h2.symm.trans e)
        omega
      · simp at hb
/-- A sorted list of the sets is the one that is put in order. -/
theorem sel_fin {yss : List (List Int)} {m : Nat} (hm : m ≤ 256) (hp : yss.Perm (selA P m)) (hs : yss.Pairwise fun p r => lessT r p = false) : yss = insA P m := by
  have hnd : yss.Nodup := hp.nodup_iff.2 (selA_nodup P m hm)
  have hsrt : Srt yss := by
    refine (hs.and hnd).imp ?_
    intro a b hab
    rcases lessT_total a b with e | e | e
    · exact absurd e hab.2
    · exact e
    · rw [hab.1] at e; cases e
  exact Srt.ext hsrt (insA_srt m hm) fun p => by rw [hp.mem_iff, insA_mem]
section
variable {n : Nat}
theorem bits_low {m k : Nat} : ∀ {j : Nat}, j ≤ k → bitsTo (m + 2 ^ k) j = bitsTo m j
  | 0, _ => rfl
  | j + 1, h => by
    rw [bitsTo, bitsTo, bits_low (by omega)]
    have e : 2 ^ k = 2 ^ j * (2 * 2 ^ (k - j - 1)) := by
      rw [← Nat.mul_assoc, ← Nat.pow_succ, ← Nat.pow_add]
      congr 1
      omega
    have e2 : (m + 2 ^ k) / 2 ^ j % 2 = m / 2 ^ j % 2 := by
      rw [e, Nat.add_mul_div_left _ _ (Nat.two_pow_pos j), Nat.add_mul_mod_self_left]
    rw [e2]
theorem bits_high {m k : Nat} (h : m < 2 ^ k) : ∀ t, bitsTo m (k + t) = bitsTo m k
  | 0 => rfl
  | t + 1 => by
    rw [← Nat.add_assoc, bitsTo, bits_high h t]
    have : m / 2 ^ (k + t) = 0 := Nat.div_eq_of_lt (Nat.lt_of_lt_of_le h (Nat.pow_le_pow_right (by decide) (by omega)))
    rw [this]
    simp
theorem valB_app (p q : List Int) : valB (p ++ q) = valB p + valB q := by
  induction p with
  | nil => simp [valB]
  | cons x l ih => rw [List.cons_append, valB, valB, ih]; omega
theorem bits_set : ∀ {k : Nat} {p : List Int}, IsSet k p → bitsTo (valB p) k = p ∧ valB p < 2 ^ k
  | 0, p, h => by
    obtain rfl : p = [] := List.eq_nil_iff_forall_not_mem.2 fun x hx => by have := h.2 x hx; omega
    exact ⟨rfl, by decide⟩
  | k + 1, p, h => by
    have hq : IsSet k (p.filter fun x => decide (x < (k : Int))) := ⟨h.1.filter _, fun x hx => by
      obtain ⟨h1, h2⟩ := List.mem_filter.1 hx
      exact ⟨(h.2 x h1).1, by simpa using h2⟩⟩
    obtain ⟨e1, e2⟩ := bits_set hq
    by_cases hk : (k : Int) ∈ p
    · have e : p = (p.filter fun x => decide (x < (k : Int))) ++ [(k : Int)] := by
        refine set_ext (n := k + 1) (m := k + 1) h ⟨List.pairwise_append.2 ⟨hq.1, List.pairwise_singleton .., fun a ha b hb => by rw [List.mem_singleton.1 hb]; exact (hq.2 a ha).2⟩, fun x hx => ?_⟩ fun x => ?_
        · rcases List.mem_append.1 hx with hx | hx
          · have := hq.2 x hx; omega
          · rw [List.mem_singleton.1 hx]; omega
        · rw [List.mem_append, List.mem_singleton, List.mem_filter]
          constructor
          · intro hx
            have := h.2 x hx
            by_cases hxk : x < (k : Int)
            · exact .inl ⟨hx, by simpa using hxk⟩
            · exact .inr (by omega)
          · rintro (hx | rfl)
            · exact hx.1
            · exact hk
      have ev : valB p = valB (p.filter fun x => decide (x < (k : Int))) + 2 ^ k := by
        conv => lhs; rw [e]
        rw [valB_app]
        simp [valB]
      generalize (p.filter fun x => decide (x < (k : Int))) = q at e ev e1 e2
      refine ⟨?_, by rw [ev, Nat.pow_succ]; omega⟩
      rw [bitsTo, ev, bits_low (Nat.le_refl k), e1, Nat.add_div_right _ (Nat.two_pow_pos k), Nat.div_eq_of_lt e2, e]
      simp
    · have e : p = p.filter fun x => decide (x < (k : Int)) := by
        refine (List.filter_eq_self.2 fun x hx => ?_).symm
        have := h.2 x hx
        have hne : x ≠ (k : Int) := fun e => hk (e ▸ hx)
        simp
        omega
      rw [← e] at e1 e2
      refine ⟨?_, by rw [Nat.pow_succ]; omega⟩
      rw [bitsTo, e1, Nat.div_eq_of_lt e2]
      simp
theorem bits8_set {p : List Int} (hn : n ≤ 8) (h : IsSet n p) : bitsTo (valB p) 8 = p ∧ valB p < 2 ^ n := by
  obtain ⟨e1, e2⟩ := bits_set h
  have e3 := bits_high e2 (8 - n)
  rw [show n + (8 - n) = 8 by omega, e1] at e3
  exact ⟨e3, e2⟩
end
end
/-- What the first k operations, and q entries of the next one, give of what is marked. -/
def StTo (n : Nat) (ops : List OpM) (L : List Bool) (k q y : Nat) : Prop := ∃ j o i, ops[j]? = some o ∧ (j < k ∨ (j = k ∧ i < q)) ∧ i < o.2.length ∧ AllM n o.1.toNat i L = true ∧ nmAt o.2 i = y
structure StI (n : Nat) (ops : List OpM) (L M : List Bool) (k q : Nat) : Prop where
  len : M.length = n
  val : ∀ y, y < n → (gB M y = true ↔ gB L y = true ∨ StTo n ops L k q y)
theorem StI.start {n : Nat} {ops : List OpM} {L : List Bool} (h : L.length = n) : StI n ops L L 0 0 := ⟨h, fun y hy => ⟨.inl, fun hh => hh.elim id fun ⟨j, o, i, _, h, _⟩ => by omega⟩⟩
theorem StI.skip {n : Nat} {ops : List OpM} {L M : List Bool} {k q : Nat} {o : OpM} (h : StI n ops L M k q) (ho : ops[k]? = some o) (hA : AllM n o.1.toNat q L = false) : StI n ops L M k (q + 1) := ⟨h.len, fun y hy => by
  rw [h.val y hy]
  refine or_congr Iff.rfl ⟨fun ⟨j, o', i, h1, h2, h3⟩ => ⟨j, o', i, h1, by omega, h3⟩, fun ⟨j, o', i, h1, h2, h3, h4, h5⟩ => ⟨j, o', i, h1, ?_, h3, h4, h5⟩⟩
  by_cases e : j = k ∧ i = q
  · obtain ⟨rfl, rfl⟩ := e
    rw [ho] at h1
    injection h1 with h1
    subst h1
    rw [hA] at h4
    cases h4
  · omega⟩
theorem StI.mark {n : Nat} {ops : List OpM} {L M : List Bool} {k q v : Nat} {o : OpM} (h : StI n ops L M k q) (ho : ops[k]? = some o) (hv : o.2[q]? = some (v : Int)) (hvn : v < n) (hA : AllM n o.1.toNat q L = true) : StI n ops L (M.set v true) k (q + 1) := ⟨by rw [List.length_set]; exact h.len, fun y hy => by
  rw [gB_set (by rw [h.len]; exact hvn)]
  have hn : nmAt o.2 q = v := by rw [nmAt_get hv]; simp
  have hq := (List.getElem?_eq_some_iff.1 hv).1
  by_cases e : y = v
  · subst e
    rw [if_pos rfl]
    exact ⟨fun _ => .inr ⟨k, o, q, ho, .inr ⟨rfl, by omega⟩, hq, hA, hn⟩, fun _ => rfl⟩
  · rw [if_neg e, h.val y hy]
    refine or_congr Iff.rfl ⟨fun ⟨j, o', i, h1, h2, h3⟩ => ⟨j, o', i, h1, by omega, h3⟩, fun ⟨j, o', i, h1, h2, h3, h4, h5⟩ => ⟨j, o', i, h1, ?_, h3, h4, h5⟩⟩
    by_cases e2 : j = k ∧ i = q
    · obtain ⟨rfl, rfl⟩ := e2
      rw [ho] at h1
      injection h1 with h1
      subst h1
      exact absurd (h5.symm.trans hn) e
    · omega⟩
theorem StI.next {n : Nat} {ops : List OpM} {L M : List Bool} {k q : Nat} {o : OpM} (h : StI n ops L M k q) (ho : ops[k]? = some o) (hq : ¬ q < o.2.length) : StI n ops L M (k + 1) 0 := ⟨h.len, fun y hy => by
  rw [h.val y hy]
  refine or_congr Iff.rfl ⟨fun ⟨j, o', i, h1, h2, h3⟩ => ⟨j, o', i, h1, by omega, h3⟩, fun ⟨j, o', i, h1, h2, h3, h4⟩ => ⟨j, o', i, h1, ?_, h3, h4⟩⟩
  by_cases e : j = k
  · subst e
    rw [ho] at h1
    injection h1 with h1
    subst h1
    omega
  · omega⟩
theorem StI.done {n : Nat} {ops : List OpM} {L M : List Bool} {k q : Nat} (h : StI n ops L M k q) (hk : ¬ k < ops.length) : M = stL n ops L := by
  refine gB_ext (n := n) h.len (stL_len _ _ _) fun y hy => ?_
  rw [stL_get hy, Bool.eq_iff_iff, Bool.or_eq_true, tt_iff, h.val y hy]
  refine or_congr Iff.rfl ⟨fun ⟨j, o, i, h1, h2, h3, h4, h5⟩ => ⟨o, List.mem_of_getElem? h1, i, h3, h4, h5⟩, fun ⟨o, ho, i, h3, h4, h5⟩ => ?_⟩
  obtain ⟨j, hj⟩ := List.getElem?_of_mem ho
  have := (List.getElem?_eq_some_iff.1 hj).1
  exact ⟨j, o, i, hj, .inl (by omega), h3, h4, h5⟩
theorem l5In_any (A : Option Addr) (m c n : Nat) (S : List Int) (w : World) (h : RdL RI w A m S) (hS : ∀ v ∈ S, 0 ≤ v ∧ v ≤ (n : Int) - 1) (hn : n ≤ 1000) :
    Calls Tryz.prog 102 #[.int .i64 n, .slice A m c] w fun e w' => e = .returned (.slice (some ⟨w.heap.size, 0, none⟩) n n) ∧ w'.ownsRow w.heap.size 4 1 (.slice (some ⟨w.heap.size, 0, none⟩) n n) n (bls (inL n S)) ∧ Below w.heap.size w w' := by
  have HS := Lib.hid hS
  have HL := Lib.hid h.len
  have hle := h.le
  clear hS
  go_enter Tryz.func102, Tryz.ntmps102
  go_wp2_with (at_make; refine make_bl w rfl _ _ rfl n rfl rfl (by omega) ?_; intro w1 hown1 hg1)
  have hb1 := (Below.refl w.heap.size w).grown hg1 (Nat.le_refl _) (by simp)
  clear hg1
  go_loopw [6] (fun i wr => ∃ k : Nat, k ≤ m ∧ i = .int .i64 k ∧ wr.ownsRow w.heap.size 4 1 (.slice (some ⟨w.heap.size, 0, none⟩) n n) n (bls (inL n (S.take k))) ∧ Below w.heap.size w wr) (fun i _ => m - (intOf i).toNat)
  case atStart =>
    refine ⟨0, Nat.zero_le _, rfl, ?_, hb1⟩
    have e : inL n (S.take 0) = List.replicate n false := by
      unfold inL
      rw [List.take_zero]
      exact List.eq_replicate_iff.2 ⟨by simp, fun b hb => by obtain ⟨y, -, rfl⟩ := List.mem_map.1 hb; rfl⟩
    rw [e]
    exact hown1
  case round =>
    clear hown1 hb1
    obtain ⟨k, hk, rfl, hown, hTr⟩ := hrel
    by_cases hlt : k < m
    · have hk0 : (0 : Int) ≤ (k : Int) := by omega
      have hk1 : (k : Int) < (m : Int) := by omega
      obtain ⟨b, o, u, v, rfl, hc, ⟨rfl, hv0, hv1⟩, -, hx⟩ := h.at hlt
      have hvi := HS.out v (List.mem_of_getElem? hx)
      obtain ⟨x, rfl⟩ := Int.eq_ofNat_of_zero_le hvi.1
      have hxn : x < n := by omega
      have HSET := Lib.hid (inL_set hx hxn)
      replace hc := keepc hTr hc
      have hcell : wr.cell? ⟨w.heap.size, x, none⟩ = some (.bool (gB (inL n (S.take k)) x)) := by rw [hown.cellAt x (by omega), bls_get (by rw [inL_len]; exact hxn)]
      have hfz := hown.frozenAt x
      have hst := (hown.stored x (.bool true)).1
      rw [bls_set, HSET.out] at hst
      have hx0 : (0 : Int) ≤ (x : Int) := by omega
      have hx1 : (x : Int) < (n : Int) := by omega
      clear hx hown
      go_wp2_with fail
      go_roundw
      case rel => exact ⟨k + 1, by omega, by go_num, hst, hTr.setCell (Nat.le_refl _) _⟩
      case measure => simp [intOf]; try omega
    · have hk1 : ¬ (k : Int) < (m : Int) := by omega
      rw [List.take_of_length_le (by rw [HL.out]; omega)] at hown
      go_wp2_with fail
      go_ret
      exact ⟨rfl, hown, hTr⟩
theorem l5Step_any (cs : List Value) (x : AlgebraM) (A : Option Addr) (n c : Nat) (L : List Bool) (w : World) (h : shAlgebra.rd w cs x) (hx : AlgP x) (hn : x.1 = (n : Int)) (hr : RdL RB w A n L) :
    Calls Tryz.prog 103 #[.agg cs.toArray, .slice A n c] w fun e w' => ∃ A' c', e = .returned (.slice A' n c') ∧ w'.ownsRow w.heap.size 4 1 (.slice A' n c') n (bls (stL n x.2 L)) ∧ Below w.heap.size w w' := by
  obtain ⟨a, ops⟩ := x
  obtain ⟨hx1, hx2, hx3, hx4⟩ := hx
  simp only at hx1 hx2 hx3 hx4 hn
  subst hn
  rw [Int.toNat_natCast] at hx4
  have hn0 : 0 < n := by omega
  have hn8 : n ≤ 8 := by omega
  obtain ⟨B, m, d, rfl, -, qo⟩ := rdAlgebra h
  have HML := Lib.hid qo.len
  have HOPS := Lib.hid hx4
  have hm4 : m ≤ 4 := by rw [← qo.len]; exact hx3
  have HLL := Lib.hid hr.len
  obtain ⟨w0, hw0, T0, hsz0, BP⟩ := boxes1 w #[.int .i64 (n : Int), .slice B m d] 26
  have HW0 := Lib.hid hw0
  replace qo := qo.next T0
  have r0 := hr.next stab_RB T0
  have cP0 := BP.cell 0
  have cP1 := BP.cell 1
  simp at cP0 cP1
  have hb1 := below_box w0 (.cells #[] 4)
  have r1 := r0.next stab_RB hb1
  have hO : (w0.alloc (.cells #[] 4)).ownsRow w0.heap.size 4 1 (.slice (some ⟨w0.heap.size, 0, none⟩) 0 0) 0 [] := World.ownsRow_lit w0 #[] 0 (Nat.le_refl _) (Nat.zero_le _) rfl
  clear hw0 hsz0 hx3 hx4 h hr
  go_enter Tryz.func103, Tryz.ntmps103
  go_upto_region 1 with fail
  rw [← HW0.out]
  go_wp2_with (at_builtin; refine appAny (R := RB) _ rfl _ _ 37 4 rfl (.bool false) 1 Tryz.underlying37 info_bl rfl (by decide) w0.heap.size 0 0 _ [] rfl hO A n c L (fun b => .bool b) (fun _ => rfl) rfl r1 (fun _ _ _ hr => hr) (by omega) (by simp) ?_; intro A5 c5 w5 hown5 hg5 hb5)
  rw [show 0 + n = n from Nat.zero_add n, List.nil_append] at hown5
  obtain ⟨g5, rfl, -, -⟩ := own_form hown5 hn0
  have T5 := hb1.trans hb5
  clear hO r1 hb1 hb5 hg5
  go_wp2_with fail
  go_loopw [6] (fun i wr => ∃ (k : Nat) (M : List Bool), k ≤ m ∧ i = .int .i64 k ∧ Hid (StI n ops L M k 0) ∧ wr.ownsRow w0.heap.size 4 1 (.slice (some ⟨g5, 0, none⟩) n c5) n (bls M) ∧ Below w0.heap.size w0 wr) (fun i _ => m - (intOf i).toNat)
  case atStart => exact ⟨0, L, Nat.zero_le _, rfl, StI.start HLL.out, hown5, T5⟩
  case round =>
    clear hown5 T5
    obtain ⟨k, M, hk, rfl, HI, hown, hTr⟩ := hrel
    have kP1 := keepc hTr cP1
    by_cases hlt : k < m
    · have hk0 : (0 : Int) ≤ (k : Int) := by omega
      have hk1 : (k : Int) < (m : Int) := by omega
      obtain ⟨b, o, vs, op, rfl, -, hc, hrr, -, hxo⟩ := qo.at hlt
      obtain ⟨B', m', d', rfl, -, qt⟩ := rdOp hrr
      have hoP := HOPS.out op (List.mem_of_getElem? hxo)
      obtain ⟨ar, tb, rfl, har⟩ := op_nat hoP
      have HXO := Lib.hid hxo
      have HTL : Hid (m' = n ^ ar) := by show _ = _; rw [← qt.len]; have := hoP.2.2.1; simpa using this
      have HTB : Hid (tb.length = m') := qt.len
      have HTV := Lib.hid hoP.2.2.2
      have hm512 : m' ≤ 4096 := by rw [HTL.out]; exact pow_bd hn8 (by omega)
      have cc0 : w0.cell? ⟨b, o + k * 2, none⟩ = some (.int .i64 (ar : Int)) := hc 0 _ rfl
      have cc1 : w0.cell? ⟨b, o + k * 2 + 1, none⟩ = some (.slice B' m' d') := hc 1 _ rfl
      clear hc hrr hxo hoP
      go_wp2_with fail
      clear kP1
      go_loopw [7] (fun i wr => ∃ (q : Nat) (M : List Bool), q ≤ m' ∧ i = .int .i64 q ∧ Hid (StI n ops L M k q) ∧ wr.ownsRow w0.heap.size 4 1 (.slice (some ⟨g5, 0, none⟩) n c5) n (bls M) ∧ Below w0.heap.size w0 wr) (fun i _ => m' - (intOf i).toNat)
      case atStart => exact ⟨0, M, Nat.zero_le _, rfl, HI, hown, hTr⟩
      case round =>
        clear hown HI hTr
        obtain ⟨q, M, hq, rfl, HI, hown, hTr⟩ := hrel
        have kP0 := keepc hTr cP0
        have kP1 := keepc hTr cP1
        have kc0 := keepc hTr cc0
        have kc1 := keepc hTr cc1
        by_cases hlq : q < m'
        · have hq0 : (0 : Int) ≤ (q : Int) := by omega
          have hq1 : (q : Int) < (m' : Int) := by omega
          have HA : Hid (∀ wz, Below wr.heap.size wr wz → Calls Tryz.prog 53 #[.int .i64 (n : Int), .int .i64 (ar : Int), .int .i64 (q : Int)] wz fun e w' => ∃ g, e = .returned (.slice (some ⟨g, 0, none⟩) ar ar) ∧ w'.ownsRow wz.heap.size 3 1 (.slice (some ⟨g, 0, none⟩) ar ar) ar (ints (nats (digs n ar q))) ∧ Below wz.heap.size wz w') := fun wz hz => l2Args_any q ar n wz hn0 (by omega) (by omega) (by omega)
          have Tk : Below wr.heap.size wr wr := Below.refl _ _
          go_upto_region 8 with fail
          go_cut [8] from 32 to 69 (fun u8 wx => ∃ g, u8 = .slice (some ⟨g, 0, none⟩) ar ar ∧ wx.ownsRow wr.heap.size 3 1 (.slice (some ⟨g, 0, none⟩) ar ar) ar (ints (nats (digs n ar q))) ∧ Below wr.heap.size wr wx)
          case first =>
            go_region_held3 (fun w' => w'.cell? ⟨w.heap.size, 0, none⟩ = some (.int .i64 (n : Int)) ∧ w'.cell? ⟨w.heap.size, 1, none⟩ = some (.slice (some ⟨b, o, none⟩) m d) ∧ w'.cell? ⟨b, o + k * 2, none⟩ = some (.int .i64 (ar : Int))) (first | go_keep | exact ⟨keepc Tk kP0, keepc Tk kP1, keepc Tk kc0⟩) (first
              | (go_at_call 53; (with_reducible refine (HA.out _ ?_).mono ?_); (first | exact Tk | exact Below.drew Tk); rintro e wn ⟨g, rfl, hon, hbn⟩; replace Tk := below_next (by first | exact Tk | exact Below.drew Tk) hbn rfl))
            all_goals
              have HON := Lib.hid hon
              clear hon
              go_wp2_with fail
              go_meet
              exact ⟨g, rfl, HON.out, by first | exact Tk | exact Below.drew Tk⟩
          case rest =>
            obtain ⟨g, rfl, hoA, hTc⟩ := hcut
            obtain ⟨w9, HWC⟩ : ∃ wq : World, wq = wc := ⟨_, rfl⟩
            subst HWC
            have hown9 := own_next hown hTc
            have T9 := below_next hTr hTc rfl
            have rL := r0.next stab_RB T9
            obtain ⟨ds, HDS⟩ : ∃ l, Hid (digs n ar q = l) := ⟨_, rfl⟩
            have HDN : Hid (∀ dd ∈ ds, dd < n) := fun dd hdd => by rw [← HDS.out] at hdd; exact digs_lt hn0 hdd
            have HDL : Hid (ds.length = ar) := by show _ = _; rw [← HDS.out, digs_len]
            rw [HDS.out] at hoA
            clear kP0 kP1 kc0 kc1 hown
            go_wp2_with fail
            go_loop [9, 10] (fun al kk => ∃ p : Nat, p ≤ ar ∧ kk = .int .i64 p ∧ al = .bool ((ds.take p).all (gB L))) (fun _ kk => ar - (intOf kk).toNat)
            case atStart => exact ⟨0, Nat.zero_le _, rfl, rfl⟩
            case round =>
              obtain ⟨p, hp, rfl, rfl⟩ := hrel
              obtain ⟨al, HAL⟩ : ∃ z, Hid ((ds.take p).all (gB L) = z) := ⟨_, rfl⟩
              rw [HAL.out]
              by_cases hlp : p < ar
              · have hp0 : (0 : Int) ≤ (p : Int) := by omega
                have hp1 : (p : Int) < (ar : Int) := by omega
                have hpl : p < ds.length := by rw [HDL.out]; exact hlp
                have hdp : ds[p]? = some ds[p] := List.getElem?_eq_getElem hpl
                have hdn := HDN.out _ (List.getElem_mem hpl)
                generalize ds[p] = dd at hdp hdn
                have hcd : w9.cell? ⟨g, p, none⟩ = some (.int .i64 (dd : Int)) := by
                  rw [hoA.cellAt p (by omega)]
                  unfold ints nats
                  rw [List.getElem?_map, List.getElem?_map, hdp]
                  rfl
                obtain ⟨bb, bo, uu, bv, rfl, hcb, rfl, -, hxb⟩ := rL.at hdn
                have HTK : Hid ((ds.take (p + 1)).all (gB L) = (al && bv)) := by
                  show _ = _
                  rw [List.take_add_one, hdp, List.all_append, HAL.out, ← gB_get hxb]
                  simp
                have hd0 : (0 : Int) ≤ (dd : Int) := by omega
                have hd1 : (dd : Int) < (n : Int) := by omega
                clear hdp hxb
                rcases al with _ | _
                all_goals
                  go_wp2_with fail
                  go_round
                  case rel => exact ⟨p + 1, by omega, by go_num, by rw [HTK.out]; rfl⟩
                  case measure => simp [intOf]; try omega
              · obtain rfl : p = ar := by omega
                have hp1 : ¬ (p : Int) < (p : Int) := by omega
                have HAM : Hid (AllM n p q L = al) := by
                  show _ = _
                  unfold AllM
                  rw [HDS.out, ← HAL.out, List.take_of_length_le (by rw [HDL.out]; exact Nat.le_refl _)]
                obtain ⟨b3, o3, u3, v, rfl, hc3, ⟨rfl, -, -⟩, -, hxv⟩ := (qt.next stab_RI T9).at hlq
                have hvi := HTV.out v (List.mem_of_getElem? hxv)
                obtain ⟨y, rfl⟩ := Int.eq_ofNat_of_zero_le hvi.1
                have hyn : y < n := by omega
                have HXV := Lib.hid hxv
                have hll := HI.out.len
                have hcell : w9.cell? ⟨g5, y, none⟩ = some (.bool (gB M y)) := by rw [hown9.cellAt y (by omega), bls_get (by omega)]
                have hy0 : (0 : Int) ≤ (y : Int) := by omega
                have hy1 : (y : Int) < (n : Int) := by omega
                have hfz := hown9.frozenAt y
                have hst := (hown9.stored y (.bool true)).1
                rw [bls_set] at hst
                have HST := Lib.hid hst
                have hg5 := (hown9.lt g5 rfl).1
                have kP1 := keepc T9 cP1
                have kc1 := keepc T9 cc1
                clear hst hxv
                rcases al with _ | _
                · have HI2 : Hid (StI n ops L M k (q + 1)) := HI.out.skip HXO.out (by simpa using HAM.out)
                  go_wp2_with fail
                  go_roundw
                  case rel => exact ⟨q + 1, M, by omega, by go_num, HI2, hown9, T9⟩
                  case measure => simp [intOf]; try omega
                · have HI2 : Hid (StI n ops L (M.set y true) k (q + 1)) := HI.out.mark HXO.out HXV.out hyn (by simpa using HAM.out)
                  go_wp2_with fail
                  go_roundw
                  case rel => exact ⟨q + 1, M.set y true, by omega, by go_num, HI2, HST.out, T9.setCell hg5 _⟩
                  case measure => simp [intOf]; try omega
        · have hq1 : ¬ (q : Int) < (m' : Int) := by omega
          have HI2 : Hid (StI n ops L M (k + 1) 0) := HI.out.next HXO.out (by have := HTB.out; simp only; omega)
          go_wp2_with fail
          go_roundw
          case rel => exact ⟨k + 1, M, by omega, by go_num, HI2, hown, hTr⟩
          case measure => simp [intOf]; try omega
    · have hk1 : ¬ (k : Int) < (m : Int) := by omega
      have HD : Hid (M = stL n ops L) := HI.out.done (by rw [HML.out]; exact hlt)
      have hz0 := T0.size
      go_wp2_with fail
      go_ret
      exact ⟨_, c5, rfl, by rw [← HD.out]; exact own_mono hown hz0, below_next T0 hTr rfl⟩
theorem l5Close_any (cs : List Value) (x : AlgebraM) (A : Option Addr) (m c : Nat) (S : List Int) (w : World) (h : shAlgebra.rd w cs x) (hx : AlgP x) (hr : RdL RI w A m S) (hS : ∀ v ∈ S, 0 ≤ v ∧ v ≤ x.1 - 1) :
    Calls Tryz.prog 81 #[.agg cs.toArray, .slice A m c] w (OwI w (genL x.1.toNat x.2 S)) := by
  have hrd := h
  obtain ⟨B, k, d, rfl, -, qo⟩ := rdAlgebra h
  obtain ⟨n, hN⟩ : ∃ n : Nat, x.1 = (n : Int) := ⟨x.1.toNat, by have := hx.1; omega⟩
  have HNN := Lib.hid hN
  have hn8 : n ≤ 8 := by have := hx.2.1; omega
  have hn0 : 0 < n := by have := hx.1; omega
  have HNT : Hid (x.1.toNat = n) := by show _ = _; omega
  obtain ⟨w0, hw0, T0, hsz0, BP⟩ := boxes1 w #[.int .i64 x.1, .slice B k d] 26
  have HW0 := Lib.hid hw0
  have HRD : Hid (∀ wz, Below w0.heap.size w0 wz → shAlgebra.rd wz [.int .i64 x.1, .slice B k d] x) := fun wz hz => shAlgebra.stab (shAlgebra.stab hrd T0.block) hz.block
  rw [hN] at HW0 BP hS HRD
  have cP0 := BP.cell 0
  have cP1 := BP.cell 1
  simp at cP0 cP1
  have HX := Lib.hid hx
  have HS := Lib.hid hS
  have HI := Lib.hid (l5In_any A m c n S w0 (hr.next stab_RI T0) HS.out (by omega))
  have HV : Hid (∀ o ∈ x.2, ∀ v ∈ o.2, 0 ≤ v ∧ v ≤ (n : Int) - 1) := fun o ho => by have := (hx.2.2.2 o ho).2.2.2; rw [HNT.out] at this; exact this
  rw [HNT.out]
  rw [hN]
  clear hw0 hsz0 hrd qo h hx hr hS hN
  go_enter Tryz.func81, Tryz.ntmps81
  go_upto_region 1 with fail
  rw [← HW0.out]
  go_wp2_with fail
  refine HI.out.mono ?_
  rintro e w1 ⟨rfl, ho1, hb1⟩
  have r1 := rd_of_own (R := RB) ho1 (fun z _ => rfl)
  clear ho1
  go_wp2_with fail
  go_loopw [5, 6] (fun s i wr => ∃ (j : Nat) (A5 : Option Addr) (c5 : Nat), j ≤ n + 1 ∧ i = .int .i64 j ∧ s = .slice A5 n c5 ∧ RdL RB wr A5 n (stN n x.2 j (inL n S)) ∧ Below w0.heap.size w0 wr) (fun _ i _ => n + 1 - (intOf i).toNat)
  case atStart => exact ⟨0, _, _, Nat.zero_le _, rfl, rfl, r1, hb1⟩
  case round =>
    clear r1 hb1
    obtain ⟨j, A5, c5, hj, rfl, rfl, hr5, hTr⟩ := hrel
    have kP0 := keepc hTr cP0
    have kP1 := keepc hTr cP1
    by_cases hlt : j < n + 1
    · have hj1 : (j : Int) ≤ (n : Int) := by omega
      have HC := Lib.hid (l5Step_any _ x A5 n c5 _ wr (HRD.out _ hTr) HX.out HNN.out hr5)
      clear hr5
      go_wp2_with fail
      refine HC.out.mono ?_
      rintro e w2 ⟨A6, c6, rfl, ho6, hb6⟩
      have r6 := rd_of_own (R := RB) ho6 (fun z _ => rfl)
      clear ho6
      go_wp2_with fail
      go_roundw
      case rel => exact ⟨j + 1, A6, c6, by omega, by go_num, rfl, r6, below_next hTr hb6 rfl⟩
      case measure => simp [intOf]; try omega
    · obtain rfl : j = n + 1 := by omega
      have hj1 : ¬ ((n + 1 : Nat) : Int) ≤ (n : Int) := by omega
      have HE : Hid (markL n (gB (stN n x.2 (n + 1) (inL n S))) = genL n x.2 S) := markL_congr fun y hy => stN_cl hn0 (inL_len _ _) HV.out hy
      have HC := Lib.hid (l5List_any A5 n c5 _ wr hr5 (by omega))
      rw [HE.out] at HC
      clear hr5 kP1
      go_wp2_with fail
      refine HC.out.mono ?_
      rintro e w2 ⟨A6, c6, rfl, ho6, hb6⟩
      go_wp2_with fail
      go_ret
      exact ⟨A6, c6, rfl, own_mono ho6 (Nat.le_trans T0.size hTr.size), below_next T0 (below_next hTr hb6 rfl) rfl⟩
theorem l5Is_any (cs : List Value) (x : AlgebraM) (A : Option Addr) (m c : Nat) (S : List Int) (w : World) (h : shAlgebra.rd w cs x) (hx : AlgP x) (hr : RdL RI w A m S) :
    Calls Tryz.prog 59 #[.agg cs.toArray, .slice A m c] w (Bl w (.bool (subB x.1.toNat x.2 S))) := by
  have hrd := h
  obtain ⟨B, k, d, rfl, -, qo⟩ := rdAlgebra h
  obtain ⟨n, hN⟩ : ∃ n : Nat, x.1 = (n : Int) := ⟨x.1.toNat, by have := hx.1; omega⟩
  have HNN := Lib.hid hN
  have hn8 : n ≤ 8 := by have := hx.2.1; omega
  have hn0 : 0 < n := by have := hx.1; omega
  have HNT : Hid (x.1.toNat = n) := by show _ = _; omega
  obtain ⟨w0, hw0, T0, hsz0, BP⟩ := boxes1 w #[.int .i64 x.1, .slice B k d] 26
  have HW0 := Lib.hid hw0
  have HRD : Hid (∀ wz, Below w0.heap.size w0 wz → shAlgebra.rd wz [.int .i64 x.1, .slice B k d] x) := fun wz hz => shAlgebra.stab (shAlgebra.stab hrd T0.block) hz.block
  rw [hN] at HW0 BP HRD
  have cP0 := BP.cell 0
  have cP1 := BP.cell 1
  simp at cP0 cP1
  have HX := Lib.hid hx
  have r0 := hr.next stab_RI T0
  have HI := Lib.hid (l1Rising_any A m c S 0 ((n : Int) - 1) w0 r0)
  obtain ⟨b1, HB1⟩ : ∃ b, Hid ((allIn 0 ((n : Int) - 1) S && risesL S) = b) := ⟨_, rfl⟩
  rw [HB1.out] at HI
  have HR : Hid (subB n x.2 S = (b1 && decide ((genL n x.2 S).length = S.length))) := by show _ = _; unfold subB; rw [HB1.out]
  rw [HNT.out]
  rw [hN]
  clear hw0 hsz0 hrd qo h hx hr hN
  go_enter Tryz.func59, Tryz.ntmps59
  go_upto_region 1 with fail
  rw [← HW0.out]
  go_wp2_with fail
  refine HI.out.mono ?_
  rintro e w1 ⟨rfl, z, rfl⟩
  rcases b1 with _ | _
  · go_wp2_with fail
    go_ret
    exact ⟨ret_bool (by rw [HR.out]; rfl), below_drewN T0 z⟩
  have hb := HB1.out
  rw [Bool.and_eq_true] at hb
  have hin : ∀ v ∈ S, 0 ≤ v ∧ v ≤ x.1 - 1 := fun v hv => by rw [HNN.out]; exact allIn_m.1 hb.1 v hv
  have HEQ := Lib.hid (gen_eq (n := n) (ops := x.2) (fun v hv => allIn_m.1 hb.1 v hv) hb.2)
  have HG := Lib.hid (l5Close_any _ x A m c S (w0.drewN z) (HRD.out _ (below_drewN (Below.refl _ _) z)) HX.out (r0.drewN stab_RI z) hin)
  rw [HNT.out] at HG
  have HGB := Lib.hid (genL_bd (n := n) (ops := x.2) (S := S) (by omega))
  obtain ⟨gl, HGL⟩ : ∃ l, Hid (genL n x.2 S = l) := ⟨_, rfl⟩
  rw [HGL.out] at HG HR HGB HEQ
  clear hin hb
  go_wp2_with fail
  refine HG.out.mono ?_
  rintro e w2 ⟨A2, c2, rfl, ho2, hb2⟩
  have r2 := rd_of_own (R := RI) ho2 (RI_ints HGB.out)
  have T2 := below_next T0 ((below_drewN (Below.refl _ _) z).trans hb2) rfl
  have HSM := Lib.hid (l1Same_any A2 A gl.length m c2 c gl S w2 r2 (r0.next stab_RI ((below_drewN (Below.refl _ _) z).trans hb2)))
  clear ho2
  go_wp2_with fail
  refine HSM.out.mono ?_
  rintro e w3 h3
  have h3' : e = .returned (.bool (eqL gl S)) ∧ Below w2.heap.size w2 w3 := by
    first
      | (obtain ⟨rfl, rfl⟩ := h3; exact ⟨rfl, Below.refl _ _⟩)
      | (obtain ⟨rfl, z3, rfl⟩ := h3; exact ⟨rfl, below_drewN (Below.refl _ _) z3⟩)
  obtain ⟨rfl, hb3⟩ := h3'
  have HEL : Hid (eqL gl S = decide (gl.length = S.length)) := by
    show _ = _
    rw [Bool.eq_iff_iff, decide_eq_true_iff, HEQ.out]
    exact eqL_iff
  clear h3
  go_wp2_with fail
  go_ret
  exact ⟨ret_bool (by rw [HR.out, HEL.out]; rfl), below_next T2 hb3 rfl⟩
/-- All subuniverses in order. -/
noncomputable def subsL (x : AlgebraM) : List (List Int) := insA (subB x.1.toNat x.2) (2 ^ x.1.toNat)
theorem pow8 {n : Nat} (h : n ≤ 8) : 2 ^ n ≤ 256 := Nat.le_trans (Nat.pow_le_pow_right (by decide) h) (by decide)
theorem allSubs_any (cs : List Value) (x : AlgebraM) (w : World) (h : shAlgebra.rd w cs x) (hx : AlgP x) :
    Calls Tryz.prog 28 #[.agg cs.toArray] w (fun e w' => ∃ A q c, e = .returned (.slice A q c) ∧ OwM 27 3 (.int .i64) w.heap.size w' (.slice A q c) q (subsL x) ∧ Below w.heap.size w w') := by
  have hrd := h
  obtain ⟨B, m, d, rfl, -, -⟩ := rdAlgebra h
  obtain ⟨z, ops⟩ := x
  obtain ⟨n, rfl⟩ : ∃ n : Nat, z = (n : Int) := ⟨z.toNat, by have h1 : 1 ≤ z := hx.1; omega⟩
  have hn8 : n ≤ 8 := by have h1 : (n : Int) ≤ 8 := hx.2.1; omega
  obtain ⟨P, HP⟩ : ∃ P, Hid (subB n ops = P) := ⟨_, Lib.hid rfl⟩
  have HSL : Hid (subsL ((n : Int), ops) = insA P (2 ^ n)) := by show _ = _; unfold subsL; rw [← HP.out]; simp
  obtain ⟨N, HN⟩ : ∃ N : Nat, Hid (2 ^ n = N) := ⟨_, Lib.hid rfl⟩
  have hN : N ≤ 256 := by rw [← HN.out]; exact pow8 hn8
  rw [HN.out] at HSL
  obtain ⟨w0, hw0, T0, hsz0, BP⟩ := boxes1 w #[.int .i64 (n : Int), .slice B m d] 26
  have HW0 := Lib.hid hw0
  have HRD : Hid (∀ wz, Below w0.heap.size w0 wz → shAlgebra.rd wz [.int .i64 (n : Int), .slice B m d] ((n : Int), ops)) := fun wz hz => shAlgebra.stab (shAlgebra.stab hrd T0.block) hz.block
  have hT1 : Below w0.heap.size w0 (w0.alloc (.cells #[] 27)) := below_box _ _
  have hML := mat_lit T0
  rw [hsz0] at hML
  clear hw0 hrd h
  go_enter Tryz.func28, Tryz.ntmps28
  go_upto_region 1 with fail
  rw [← HW0.out]
  go_wp2_with fail
  go_loopw [3, 4] (fun v j wr => ∃ k : Nat, k ≤ N ∧ j = .int .i64 k ∧ (∃ A' c', v = .slice A' (selA P k).length c' ∧ OwM 27 3 (.int .i64) w.heap.size wr (.slice A' (selA P k).length c') (selA P k).length (selA P k)) ∧ Below w0.heap.size w0 wr) (fun _ j _ => N - (intOf j).toNat)
  case atStart => exact ⟨0, Nat.zero_le _, rfl, ⟨_, 0, rfl, hML⟩, hT1⟩
  case round =>
    clear hT1 hML
    obtain ⟨k, hk, rfl, ⟨A', c', rfl, hown⟩, hT⟩ := hrel
    have hpw : (1 : Int) * 2 ^ n = (N : Int) := by rw [← HN.out]; simp
    have hpw2 : (2 : Int) ^ n = (N : Int) := by rw [← HN.out]; simp
    have hfl := selA_len P k
    have cP0 := (BP.next hT).cell 0
    simp at cP0
    have hT0r := below_next T0 hT rfl
    by_cases hlt : k < N
    · have hk1 : (k : Int) < (N : Int) := by omega
      have HST : Hid (selA P (k + 1) = selA P k ++ (if P (bitsTo k 8) then [bitsTo k 8] else [])) := rfl
      have hbl := bits8_len k (by omega) 8 (by omega)
      have HBB : Hid (∀ x ∈ bitsTo k 8, -9223372036854775808 ≤ x ∧ x ≤ 9223372036854775807) := fun x hx => by
        have := bits8_bd k (by omega) x hx
        omega
      obtain ⟨acc, HA⟩ : ∃ acc, Hid (selA P k = acc) := ⟨_, rfl⟩
      obtain ⟨xs, HX⟩ : ∃ xs, Hid (bitsTo k 8 = xs) := ⟨_, rfl⟩
      rw [HA.out] at hown hfl HST ⊢
      rw [HX.out] at hbl HBB HST
      have HB1 := bitsOf8_any k wr (by omega)
      rw [HX.out] at HB1
      have HB := Lib.hid HB1
      clear HB1
      have hT2 := hT0r.size
      go_upto_region 6 with (go_at_call 55; refine HB.out.mono ?_; rintro e w4 ⟨A4, c4, rfl, how4, hb4⟩)
      have hT4 := below_next hT hb4 rfl
      have hT04 := below_next T0 hT4 rfl
      have hsz4 := hT04.size
      obtain ⟨r, HR⟩ : ∃ r, Hid (P xs = r) := ⟨_, rfl⟩
      have HF := isSub_any [.int .i64 (n : Int), .slice B m d] ((n : Int), ops) A4 xs.length c4 xs w4 (HRD.out w4 hT4) hx (rd_of_own (R := RI) how4 (RI_ints HBB.out))
      rw [show ((n : Int), ops).1.toNat = n from by simp, show subB n ((n : Int), ops).2 xs = P xs from by rw [← HP.out], HR.out] at HF
      have HF := Lib.hid HF
      rw [HR.out] at HST
      clear cP0
      have cP0 := (BP.next hT4).cell 0
      have cP1 := (BP.next hT4).cell 1
      simp at cP0 cP1
      rcases r with _ | _
      · have HS2 : Hid (selA P (k + 1) = acc) := by show _ = _; rw [HST.out]; simp
        have hown4 := hown.next hb4
        go_wp2_with (go_at_call 31; refine HF.out.mono ?_; rintro e w5 ⟨rfl, hb5⟩)
        go_roundw
        case rel => exact ⟨k + 1, by omega, by go_num, ⟨A', c', by rw [HS2.out], by rw [HS2.out]; exact hown4.next hb5⟩, below_next hT4 hb5 rfl⟩
        case measure => simp [intOf]; omega
      · have HS2 : Hid (selA P (k + 1) = acc ++ [xs]) := by show _ = _; rw [HST.out]; simp
        go_upto_region 7 with (go_at_call 31; refine HF.out.mono ?_; rintro e w5 ⟨rfl, hb5⟩)
        have hb45 := below_next hb4 hb5 rfl
        obtain ⟨vs, hvs, HPU⟩ := hown.push (by decide) hb45 hT2 (own_next how4 hb5)
        have hT5 := below_next hT4 hb5 rfl
        have hsz5 : w.heap.size ≤ w5.heap.size := (below_next T0 hT5 rfl).size
        have hsz50 := hT5.size
        go_wp2_with (at_builtin; refine app1 w5 rfl _ _ 33 27 rfl (.slice none 0 0) 24 Tryz.underlying33 info_ints rfl (by decide) w.heap.size acc.length c' A' vs rfl hvs (.slice A4 xs.length c4) rfl rfl (by omega) hsz5 ?_; intro A2 c2 w6 hown6 hg6 hb6)
        have hT6 : Below w0.heap.size w0 w6 := hT5.grown hg6 hsz50 (fun r e => by
          have h9 := hvs.lt r e
          have h8 := own_off hvs (BP.next hT5) (by decide)
          have h7 : r ≠ w.heap.size := fun e2 => h8 (by rw [e, e2])
          omega)
        go_roundw
        case rel => exact ⟨k + 1, by omega, by go_num, ⟨A2, c2, by rw [HS2.out, List.length_append]; rfl, by rw [HS2.out, List.length_append]; exact HPU hown6 hg6⟩, hT6⟩
        case measure => simp [intOf]; omega
    · obtain rfl : k = N := by omega
      have hk1 : ¬ (k : Int) < (k : Int) := by omega
      have HBD := Lib.hid (selA_bd P hN)
      go_wp2_with (go_at_call 56; refine (sortRows_any w.heap.size A' c' (selA P k).length (selA P k) wr hown hT0r.size HBD.out (by omega)).mono ?_; rintro e w5 ⟨rfl, yss, hM, hP, hW, hb5⟩)
      go_ret
      refine ⟨_, _, _, rfl, ?_, hT0r.trans hb5⟩
      rw [HSL.out, ← sel_fin hN hP hW]
      exact hM
theorem l5All_any (cs : List Value) (x : AlgebraM) (w : World) (h : shAlgebra.rd w cs x) (hx : AlgP x) :
    Calls Tryz.prog 29 #[.agg cs.toArray] w (fun e w' => ∃ A q c, e = .returned (.slice A q c) ∧ RdL (RV RI) w' A q (subsL x) ∧ Below w.heap.size w w') := by
  have hrd := h
  obtain ⟨B, m, d, rfl, -, -⟩ := rdAlgebra h
  obtain ⟨z, ops⟩ := x
  obtain ⟨n, rfl⟩ : ∃ n : Nat, z = (n : Int) := ⟨z.toNat, by have h1 : 1 ≤ z := hx.1; omega⟩
  have hn8 : n ≤ 8 := by have h1 : (n : Int) ≤ 8 := hx.2.1; omega
  obtain ⟨P, HP⟩ : ∃ P, Hid (subB n ops = P) := ⟨_, Lib.hid rfl⟩
  have HSL : Hid (subsL ((n : Int), ops) = insA P (2 ^ n)) := by show _ = _; unfold subsL; rw [← HP.out]; simp
  obtain ⟨N, HN⟩ : ∃ N : Nat, Hid (2 ^ n = N) := ⟨_, Lib.hid rfl⟩
  have hN : N ≤ 256 := by rw [← HN.out]; exact pow8 hn8
  rw [HN.out] at HSL
  obtain ⟨w0, hw0, T0, hsz0, BP⟩ := boxes1 w #[.int .i64 (n : Int), .slice B m d] 26
  have HW0 := Lib.hid hw0
  have HRD : Hid (∀ wz, Below w0.heap.size w0 wz → shAlgebra.rd wz [.int .i64 (n : Int), .slice B m d] ((n : Int), ops)) := fun wz hz => shAlgebra.stab (shAlgebra.stab hrd T0.block) hz.block
  have hT1 : Below w0.heap.size w0 (w0.alloc (.cells #[] 27)) := below_box _ _
  clear hw0 hrd h
  go_enter Tryz.func29, Tryz.ntmps29
  go_upto_region 1 with fail
  rw [← HW0.out]
  go_wp2_with fail
  go_loopw [3, 4] (fun v j wr => ∃ k : Nat, k ≤ N ∧ j = .int .i64 k ∧ OutM wr v (insA P k) ∧ Below w0.heap.size w0 wr) (fun _ j _ => N - (intOf j).toNat)
  case atStart => exact ⟨0, Nat.zero_le _, rfl, ⟨_, _, _, _, rfl, Nat.le_refl _, RdL.nil _ _ _⟩, hT1⟩
  case round =>
    clear hT1
    obtain ⟨k, hk, rfl, ⟨ob, oo, on, oc, rfl, hoc, ho⟩, hT⟩ := hrel
    have hpw : (1 : Int) * 2 ^ n = (N : Int) := by rw [← HN.out]; simp
    have hpw2 : (2 : Int) ^ n = (N : Int) := by rw [← HN.out]; simp
    have hol := insA_len P k
    rw [ho.len] at hol
    have cP0 := (BP.next hT).cell 0
    simp at cP0
    have hT0r := below_next T0 hT rfl
    by_cases hlt : k < N
    · have hk1 : (k : Int) < (N : Int) := by omega
      have HST : Hid (insA P (k + 1) = if P (bitsTo k 8) then insT (bitsTo k 8) (insA P k) else insA P k) := rfl
      have hbl := bits8_len k (by omega) 8 (by omega)
      have HBB : Hid (∀ x ∈ bitsTo k 8, -9223372036854775808 ≤ x ∧ x ≤ 9223372036854775807) := fun x hx => by
        have := bits8_bd k (by omega) x hx
        omega
      obtain ⟨acc, HA⟩ : ∃ acc, Hid (insA P k = acc) := ⟨_, rfl⟩
      obtain ⟨xs, HX⟩ : ∃ xs, Hid (bitsTo k 8 = xs) := ⟨_, rfl⟩
      rw [HA.out] at ho HST
      rw [HX.out] at hbl HBB HST
      have HB1 := l5Bits8_any k wr (by omega)
      rw [HX.out] at HB1
      have HB := Lib.hid HB1
      clear HB1
      go_upto_region 6 with (go_at_call 58; refine HB.out.mono ?_; rintro e w4 ⟨A4, c4, rfl, how4, hb4⟩)
      have hT4 := below_next hT hb4 rfl
      have hrx := rd_of_own (R := RI) how4 (RI_ints HBB.out)
      replace ho := ho.next stab_RVI hb4
      obtain ⟨r, HR⟩ : ∃ r, Hid (P xs = r) := ⟨_, rfl⟩
      have HF := l5Is_any [.int .i64 (n : Int), .slice B m d] ((n : Int), ops) A4 xs.length c4 xs w4 (HRD.out w4 hT4) hx hrx
      rw [show ((n : Int), ops).1.toNat = n from by simp, show subB n ((n : Int), ops).2 xs = P xs from by rw [← HP.out], HR.out] at HF
      have HF := Lib.hid HF
      rw [HR.out] at HST
      clear cP0
      have cP0 := (BP.next hT4).cell 0
      have cP1 := (BP.next hT4).cell 1
      simp at cP0 cP1
      clear how4 hb4
      rcases r with _ | _
      · have HS2 : Hid (insA P (k + 1) = acc) := by show _ = _; rw [HST.out]; simp
        go_wp2_with (go_at_call 59; refine HF.out.mono ?_; rintro e w5 ⟨rfl, hb5⟩)
        go_roundw
        case rel => exact ⟨k + 1, by omega, by go_num, ⟨ob, oo, on, oc, rfl, hoc, by rw [HS2.out]; exact ho.next stab_RVI hb5⟩, below_next hT4 hb5 rfl⟩
        case measure => simp [intOf]; omega
      · have HS2 : Hid (insA P (k + 1) = insT xs acc) := by show _ = _; rw [HST.out]; simp
        go_upto_region 7 with (go_at_call 59; refine HF.out.mono ?_; rintro e w5 ⟨rfl, hb5⟩)
        have hT5 := below_next hT4 hb5 rfl
        have HSO := Lib.hid (l5Sort_any ob oo on oc A4 xs.length c4 acc xs w5 (ho.next stab_RVI hb5) (hrx.next stab_RI hb5) hoc (by omega))
        go_wp2_with (go_at_call 60; refine HSO.out.mono ?_; rintro e w6 ⟨g6, c6, rfl, hc6, hr6, hb6⟩)
        have hT6 := below_next hT5 hb6 rfl
        go_roundw
        case rel => exact ⟨k + 1, by omega, by go_num, ⟨g6, 0, on + 1, c6, rfl, hc6, by rw [HS2.out]; exact hr6⟩, hT6⟩
        case measure => simp [intOf]; omega
    · obtain rfl : k = N := by omega
      have hk1 : ¬ (k : Int) < (k : Int) := by omega
      go_wp2_with fail
      go_ret
      exact ⟨some ⟨ob, oo, none⟩, on, ⟨oc, rfl⟩, by rw [HSL.out]; exact ho, hT0r⟩
/-- AllSubuniverses' answer. -/
noncomputable def asRes (x : AlgebraM) : List (List Int) := if algB x then subsL x else []
theorem implAS_any (cs : List Value) (x : AlgebraM) (w : World) (h : shAlgebra.rd w cs x) : Calls Tryz.prog 9 #[.agg cs.toArray] w (OwnMB w (asRes x) (algB x)) := by
  have hrd := h
  obtain ⟨B, m, d, rfl, -, -⟩ := rdAlgebra h
  obtain ⟨w0, hw0, T0, hsz0, BP⟩ := boxes1 w #[.int .i64 x.1, .slice B m d] 26
  have HW0 := Lib.hid hw0
  have hr0 := stab_same hrd T0
  have cP0 := BP.cell 0
  have cP1 := BP.cell 1
  simp at cP0 cP1
  have HG := Lib.hid (isAlgebra_any [.int .i64 x.1, .slice B m d] x w0 hr0)
  obtain ⟨r, HR⟩ : ∃ r, Hid (algB x = r) := ⟨_, rfl⟩
  rw [HR.out] at HG ⊢
  clear hw0 hrd h
  go_enter Tryz.func9, Tryz.ntmps9
  go_upto_region 1 with fail
  rw [← HW0.out]
  go_wp2_with fail
  refine HG.out.mono ?_
  rintro e w1 ⟨rfl, hb1⟩
  have T1 := below_next T0 hb1 rfl
  have hr1 := stab_same hr0 hb1
  clear cP0 cP1 HG hr0
  have cP0 := (BP.next hb1).cell 0
  have cP1 := (BP.next hb1).cell 1
  simp at cP0 cP1
  rcases r with _ | _
  · have HF : Hid (asRes x = []) := by show _ = _; unfold asRes; rw [HR.out]; rfl
    go_wp2_with fail
    go_ret2
    exact ⟨_, 0, 0, rfl, by rw [HF.out]; exact mat_lit T1, below_next T1 (below_box _ _) rfl⟩
  · have HF : Hid (asRes x = subsL x) := by show _ = _; unfold asRes; rw [HR.out]; rfl
    have HA := Lib.hid (allSubs_any [.int .i64 x.1, .slice B m d] x w1 hr1 (alg_iff.1 HR.out))
    go_wp2_with fail
    refine HA.out.mono ?_
    rintro e w2 ⟨A, q, c, rfl, hM, hb2⟩
    go_wp2_with fail
    go_ret2
    exact ⟨A, q, c, rfl, by rw [HF.out]; exact hM.mono T1.size, below_next T1 hb2 rfl⟩
theorem specAS_any (cs : List Value) (x : AlgebraM) (w : World) (h : shAlgebra.rd w cs x) : Calls Tryz.prog 10 #[.agg cs.toArray] w (RdMB w (asRes x) (algB x)) := by
  have hrd := h
  obtain ⟨B, m, d, rfl, -, -⟩ := rdAlgebra h
  obtain ⟨w0, hw0, T0, hsz0, BP⟩ := boxes1 w #[.int .i64 x.1, .slice B m d] 26
  have HW0 := Lib.hid hw0
  have hr0 := stab_same hrd T0
  have cP0 := BP.cell 0
  have cP1 := BP.cell 1
  simp at cP0 cP1
  have HG := Lib.hid (l2Good_any [.int .i64 x.1, .slice B m d] x w0 hr0)
  obtain ⟨r, HR⟩ : ∃ r, Hid (algB x = r) := ⟨_, rfl⟩
  rw [HR.out] at HG ⊢
  clear hw0 hrd h
  go_enter Tryz.func10, Tryz.ntmps10
  go_upto_region 1 with fail
  rw [← HW0.out]
  go_wp2_with fail
  refine HG.out.mono ?_
  rintro e w1 ⟨rfl, hb1⟩
  have T1 := below_next T0 hb1 rfl
  have hr1 := stab_same hr0 hb1
  clear cP0 cP1 HG hr0
  have cP0 := (BP.next hb1).cell 0
  have cP1 := (BP.next hb1).cell 1
  simp at cP0 cP1
  rcases r with _ | _
  · have HF : Hid (asRes x = []) := by show _ = _; unfold asRes; rw [HR.out]; rfl
    go_wp2_with fail
    go_ret2
    exact ⟨_, 0, 0, rfl, by rw [HF.out]; exact RdL.nil _ _ _, below_next T1 (below_box _ _) rfl⟩
  · have HF : Hid (asRes x = subsL x) := by show _ = _; unfold asRes; rw [HR.out]; rfl
    have HA := Lib.hid (l5All_any [.int .i64 x.1, .slice B m d] x w1 hr1 (alg_iff.1 HR.out))
    go_wp2_with fail
    refine HA.out.mono ?_
    rintro e w2 ⟨A, q, c, rfl, hM, hb2⟩
    go_wp2_with fail
    go_ret2
    exact ⟨A, q, c, rfl, by rw [HF.out]; exact hM, below_next T1 hb2 rfl⟩
section
open Go.Sort
def PrTo (n : Nat) (ops : List OpM) (x y : Nat) (P : List (List Int)) : Prop := (∀ p ∈ P, congB n ops p = true) ∧ (∀ x' y', x' < y' → y' < n → (x' < x ∨ (x' = x ∧ y' < y)) → ∃ p ∈ P, IsPr n ops x' y' p) ∧ P.length ≤ 8 * x + y
theorem PrTo.start (n : Nat) (ops : List OpM) : PrTo n ops 0 0 [] := ⟨fun p h => (by cases h), fun x' y' _ _ h => (by omega), Nat.zero_le _⟩
theorem PrTo.row {n : Nat} {ops : List OpM} {x : Nat} {P : List (List Int)} (h : PrTo n ops x 0 P) : PrTo n ops x (x + 1) P := ⟨h.1, fun x' y' h1 h2 h3 => h.2.1 x' y' h1 h2 (by omega), by have := h.2.2; omega⟩
theorem PrTo.add {n : Nat} {ops : List OpM} {x y : Nat} {P : List (List Int)} {p : List Int} (h : PrTo n ops x y P) (hp : IsPr n ops x y p) : PrTo n ops x (y + 1) (P ++ [p]) := by
  refine ⟨fun q hq => ?_, fun x' y' h1 h2 h3 => ?_, by have := h.2.2; rw [List.length_append, List.length_singleton]; omega⟩
  · rcases List.mem_append.1 hq with hq | hq
    · exact h.1 q hq
    · rw [List.mem_singleton.1 hq]; exact hp.1
  · by_cases e : x' = x ∧ y' = y
    · obtain ⟨rfl, rfl⟩ := e
      exact ⟨p, List.mem_append_right _ (List.mem_singleton.2 rfl), hp⟩
    · obtain ⟨q, hq, hi⟩ := h.2.1 x' y' h1 h2 (by omega)
      exact ⟨q, List.mem_append_left _ hq, hi⟩
theorem PrTo.col {n : Nat} {ops : List OpM} {x y : Nat} {P : List (List Int)} (h : PrTo n ops x y P) (hy : ¬ y < n) (hn : y ≤ 8) : PrTo n ops (x + 1) 0 P := ⟨h.1, fun x' y' h1 h2 h3 => h.2.1 x' y' h1 h2 (by omega), by have := h.2.2; omega⟩
theorem own_ne_map {w : World} {lo size n b : Nat} {e : TypeId} {v : Value} {xs : List Value} {ks : List ByteArray} (h : w.ownsRow lo e size v n xs) (hm : MapS w b ks) : v.ownBlock ≠ some b := fun hb => by
  obtain ⟨es, clock, h1, -⟩ := hm
  rcases h.2 with ⟨rfl, -⟩ | ⟨g1, cap1, cur1, rfl, -, hh, -⟩
  · simp [Value.ownBlock] at hb
  · have : g1 = b := by simpa [Value.ownBlock] using hb
    subst this
    rw [hh] at h1
    cases h1
theorem own_put {w w' : World} {lo size n b : Nat} {e : TypeId} {v : Value} {xs : List Value} {ks : List ByteArray} (h : w.ownsRow lo e size v n xs) (hm : MapS w b ks) (hg : w.grownBy w' (some b)) : w'.ownsRow lo e size v n xs :=
  own_same h fun c hc => hg.block c (h.lt c hc).2 fun e => own_ne_map h hm (by rw [hc, ← e])
theorem OwM.put {w w' : World} {eo ei : TypeId} {f : Int → Value} {lo n b : Nat} {v : Value} {xss : List (List Int)} {ks : List ByteArray} (h : OwM eo ei f lo w v n xss) (hm : MapS w b ks) (hg : w.grownBy w' (some b)) : OwM eo ei f lo w' v n xss := by
  obtain ⟨vs, m1, m2, m3, m4⟩ := h
  exact ⟨vs, own_put m1 hm hg, m2, fun k u xs hu hx => own_put (m3 k u xs hu hx) hm hg, m4⟩
theorem key_size {xs : List Int} (h : xs.length ≤ 1000) : (keyS xs).size ≤ maxLen := by
  show (keyB xs).length ≤ _
  rw [keyB_len]
  unfold maxLen
  omega
/-- A literal of one row of the call's own. -/
theorem one_mat {wp w1 w2 : World} {g n : Nat} {c : Nat} {xs : List Int} (h : w1.ownsRow wp.heap.size 3 1 (.slice (some ⟨g, 0, none⟩) n c) n (ints xs)) (hz : wp.heap.size ≤ w1.heap.size) (hw : w2 = w1.alloc (.cells #[.slice (some ⟨g, 0, none⟩) n c] 27)) :
    OwM 27 3 (.int .i64) wp.heap.size w2 (.slice (some ⟨w1.heap.size, 0, none⟩) 1 1) 1 [xs] := by
  subst hw
  have hl : xs.length = n := by have := h.1; simpa [ints] using this
  refine ⟨[.slice (some ⟨g, 0, none⟩) n c], own_mono (World.ownsRow_lit w1 #[.slice (some ⟨g, 0, none⟩) n c] 1 (Nat.le_refl _) (by unfold maxLen; omega) rfl) hz, rfl, fun k u ys hu hy => ?_, by simp [Value.ownBlock]⟩
  match k, hu, hy with
  | 0, hu, hy =>
    injection hu with hu
    injection hy with hy
    subst hu hy
    rw [hl]
    exact own_next h (below_box _ _)
  | k + 1, hu, hy => cases hu
theorem stab_RVI' : Stab (RV RI) := stab_RV stab_RI
theorem cong_256 {n : Nat} {ops : List OpM} {p : List Int} (hn : n ≤ 8) (h : congB n ops p = true) : ∀ v ∈ p, 0 ≤ v ∧ v < 256 := fun v hv => by have := par_in (cong_par h) v hv; omega
theorem cong_rd {n : Nat} {ops : List OpM} {xs : List (List Int)} (hn : n ≤ 8) (h : ∀ p ∈ xs, congB n ops p = true) : ∀ p ∈ xs, ∀ x ∈ p, ∀ wz : World, RI wz (.int .i64 x) x := fun p hp x hx wz => by
  have := cong_256 hn (h p hp) x hx
  exact ⟨rfl, by omega, by omega⟩
theorem allCong_any (cs : List Value) (ops : List OpM) (n : Nat) (w : World) (h : shAlgebra.rd w cs ((n : Int), ops)) (hx : AlgP ((n : Int), ops)) :
    Calls Tryz.prog 63 #[.agg cs.toArray] w fun e w' => ∃ A q c, e = .returned (.tuple #[.slice A q c, .bool (fewB n ops)]) ∧ (fewB n ops = true → OwM 27 3 (.int .i64) w.heap.size w' (.slice A q c) q (conL n ops)) ∧ Below w.heap.size w w' := by
  have hrd := h
  obtain ⟨B, m, d, rfl, -, -⟩ := rdAlgebra h
  have hops : ∀ o ∈ ops, OpP n o := hx.2.2.2
  have hn8 : n ≤ 8 := by have h1 : (n : Int) ≤ 8 := hx.2.1; omega
  have hn0 : 0 < n := by have h1 : (1 : Int) ≤ n := hx.1; omega
  obtain ⟨w0, hw0, T0, hsz0, BP⟩ := boxes1 w #[.int .i64 (n : Int), .slice B m d] 26
  have HW0 := Lib.hid hw0
  have HX := Lib.hid hx
  have HOPS := Lib.hid hops
  have HR0 := Lib.hid (shAlgebra.stab hrd T0.block)
  have hML := mat_lit (Below.refl w0.heap.size w0)
  have hT1 : Below w0.heap.size w0 (w0.alloc (.cells #[] 27)) := below_box _ _
  have cP0 := BP.cell 0
  simp at cP0
  clear hw0 hrd h hx hops
  go_enter Tryz.func63, Tryz.ntmps63
  go_upto_region 1 with fail
  rw [← HW0.out]
  go_wp2_with fail
  go_loopw [4, 5] (fun v i wr => ∃ (x : Nat) (P : List (List Int)) (A : Option Addr) (c : Nat), x ≤ n ∧ i = .int .i64 x ∧ v = .slice A P.length c ∧ OwM 27 3 (.int .i64) w0.heap.size wr (.slice A P.length c) P.length P ∧ Hid (PrTo n ops x 0 P) ∧ Below w0.heap.size w0 wr) (fun _ i _ => n - (intOf i).toNat)
  case atStart => exact ⟨0, [], _, 0, Nat.zero_le _, rfl, rfl, by rw [← hsz0]; exact hML, PrTo.start n ops, hT1⟩
  case round =>
    clear hML hT1 cP0
    obtain ⟨x, P, A, c, hk, rfl, rfl, hM, HP, hT⟩ := hrel
    have cP0 := (BP.next hT).cell 0
    simp at cP0
    by_cases hlt : x < n
    · have hx1 : (x : Int) < (n : Int) := by omega
      go_wp2_with fail
      have HP1 : Hid (PrTo n ops x (x + 1) P) := HP.out.row
      go_loopw [4, 6] (fun v i wr => ∃ (y : Nat) (P : List (List Int)) (A : Option Addr) (c : Nat), x < y ∧ y ≤ n ∧ i = .int .i64 y ∧ v = .slice A P.length c ∧ OwM 27 3 (.int .i64) w0.heap.size wr (.slice A P.length c) P.length P ∧ Hid (PrTo n ops x y P) ∧ Below w0.heap.size w0 wr) (fun _ i _ => n - (intOf i).toNat)
      case atStart => exact ⟨x + 1, P, A, c, by omega, by omega, by go_num, rfl, hM, HP1, hT⟩
      case round =>
        clear hM HP HP1 hT cP0
        obtain ⟨y, P, A, c, hxy, hy, rfl, rfl, hM, HP, hT⟩ := hrel
        have cP0 := (BP.next hT).cell 0
        have cP1 := (BP.next hT).cell 1
        simp at cP0 cP1
        by_cases hlt2 : y < n
        · have hy1 : (y : Int) < (n : Int) := by omega
          obtain ⟨w2, HW2, hb2, B2, hz2⟩ := al wr #[.int .i64 (x : Int), .int .i64 (y : Int)] 93
          have T2 := below_next hT hb2 rfl
          have c0 := B2.cell 0
          have c1 := B2.cell 1
          simp at c0 c1
          have HC := Lib.hid (congruenceOf_any _ ops n wr.heap.size x y w2 (shAlgebra.stab HR0.out T2.block) HX.out c0 c1 (by omega) (by omega))
          have hPl := HP.out.2.2
          have hsz := hT.size
          clear c0 c1 B2
          go_wp2_with fail
          rw [← HW2.out]
          refine HC.out.mono ?_
          rintro e w3 ⟨A3, c3, p, rfl, hop, hpr, hb3⟩
          have T3 := below_next T2 hb3 rfl
          have hb23 := below_next hb2 hb3 rfl
          have hpl := (cong_par hpr.1).1
          obtain ⟨vs, hvs, HPU⟩ := hM.push (by decide) hb23 hsz (u := .slice A3 n c3) (xs := p) (by rw [hpl]; exact own_mono hop hb2.size)
          have HP2 : Hid (PrTo n ops x (y + 1) (P ++ [p])) := HP.out.add hpr
          have hsz3 := T3.size
          have hP64 : P.length ≤ 128 := by omega
          clear hop hpr hpl hM HC
          go_wp2_with (at_builtin; refine app1 w3 rfl _ _ 33 27 rfl (.slice none 0 0) 24 Tryz.underlying33 info_ints rfl (by decide) w0.heap.size P.length c A vs rfl hvs (.slice A3 n c3) rfl rfl (by omega) hsz3 ?_; intro A2 c2 w6 hown6 hg6 hb6)
          have hT6 : Below w0.heap.size w0 w6 := T3.grown hg6 hsz3 (fun r e => (hvs.lt r e).1)
          go_roundw
          case rel => exact ⟨y + 1, P ++ [p], A2, c2, by omega, by omega, by go_num, by rw [List.length_append]; rfl, by rw [List.length_append]; exact HPU hown6 hg6, HP2, hT6⟩
          case measure => simp [intOf]; try omega
        · have hy1 : ¬ (y : Int) < (n : Int) := by omega
          have HP2 : Hid (PrTo n ops (x + 1) 0 P) := HP.out.col hlt2 (by omega)
          go_wp2_with fail
          go_roundw
          case rel => exact ⟨x + 1, P, A, c, by omega, by go_num, rfl, hM, HP2, hT⟩
          case measure => simp [intOf]; try omega
    · obtain rfl : n = x := by omega
      have hx1 : ¬ (n : Int) < (n : Int) := by omega
      obtain ⟨wp, HWP⟩ : ∃ z, Hid (z = wr) := ⟨_, Lib.hid rfl⟩
      have hrP := hM.rd (R := RI) fun p hp v hv => cong_rd hn8 HP.out.1 p hp v hv _
      rw [← HWP.out] at hT hrP hM
      rw [← HWP.out] at cP0 ⊢
      have hszp := hT.size
      have hPl := HP.out.2.2
      clear HWP hM
      go_wp2_with fail
      refine (identityOf_any n wp (by omega)).mono ?_
      rintro e w1 ⟨z, rfl, ho, hb1⟩
      obtain ⟨w2, HW2, hb2, B2, hz2⟩ := al w1 #[.slice (some ⟨z, 0, none⟩) n n] 27
      have hM2 : OwM 27 3 (.int .i64) wp.heap.size w2 (.slice (some ⟨w1.heap.size, 0, none⟩) 1 1) 1 [upTo n] := one_mat ho hb1.size HW2.out
      have T2 := below_next hb1 hb2 rfl
      obtain ⟨w3, HW3⟩ : ∃ w3, Hid (w3 = w2.alloc (.map #[] 0)) := ⟨_, Lib.hid rfl⟩
      have hb3 : Below w2.heap.size w2 w3 := by rw [HW3.out]; exact below_box _ _
      have T3 := below_next T2 hb3 rfl
      have hMP : MapS w3 w2.heap.size [] := by rw [HW3.out]; exact MapS.made _
      have c0 : (w2.alloc (.map #[] 0)).cell? ⟨w1.heap.size, 0, none⟩ = some (.slice (some ⟨z, 0, none⟩) n n) := by
        rw [← HW3.out]
        exact (B2.next hb3).cell 0
      have hr3 : RdL RI w3 (some ⟨z, 0, none⟩) n (upTo n) := rd_of_own (R := RI) (own_next (own_next ho hb2) hb3) (RI_ints fun v hv => by have := par_in (up_par n) v hv; omega)
      have hm2 := T2.size
      clear cP0
      have hmm := @run_makeMap Tryz.prog
      go_upto_region 10 with fail
      rw [← HW2.out]
      go_wp2_with fail
      rw [← HW3.out]
      refine (keyOf_any _ n n (upTo n) w3 hr3 (fun v hv => by have := par_in (up_par n) v hv; omega) (by omega)).mono ?_
      rintro e w4 ⟨rfl, hb4⟩
      have T4 := below_next T3 hb4 rfl
      obtain ⟨w5, hput, hMP5, hg5⟩ := (hMP.next hb4).put (s := keyS (upTo n)) (key_size (by rw [(up_par n).1]; omega)) (by unfold maxLen; simp)
      have hM5 := ((hM2.next hb3).next hb4).put (hMP.next hb4) hg5
      have T5 : Below wp.heap.size wp w5 := T4.grown hg5 T4.size fun j hj => by cases hj; exact hm2
      have HL0 := Lib.hid (LsI.start (n := n) (ops := ops) P hn0 HOPS.out)
      clear hM2 hMP c0 hr3 hb1 hb2 hb3 B2 T3
      go_wp2_with fail
      obtain ⟨bm, HBM⟩ : ∃ b, Hid (w2.heap.size = b) := ⟨_, Lib.hid rfl⟩
      rw [HBM.out] at hm2 hMP5 ⊢
      have HPA := Lib.hid HP.out
      go_loopw [7, 9] (fun v i wr => ∃ (i' : Nat) (xs : List (List Int)) (A : Option Addr) (c : Nat), i = .int .i64 i' ∧ v = .slice A xs.length c ∧ OwM 27 3 (.int .i64) wp.heap.size wr (.slice A xs.length c) xs.length xs ∧ MapS wr bm (xs.map keyS) ∧ i' ≤ xs.length ∧ xs.length ≤ 200 ∧ Hid (LsI n ops P i' 0 xs) ∧ Below wp.heap.size wp wr) (fun _ i _ => 201 - (intOf i).toNat)
      case atStart => exact ⟨0, [upTo n], _, _, rfl, rfl, hM5, hMP5, Nat.zero_le _, by simp, HL0, T5⟩
      case round =>
        clear hM5 hMP5 HL0 T5 hg5 hput T4 hb4
        obtain ⟨i, xs, A7, c7, rfl, rfl, hM, hMP, hi, hx200, HL, hT7⟩ := hrel
        by_cases hlt3 : i < xs.length
        · have hi1 : (i : Int) < (xs.length : Int) := by omega
          go_wp2_with fail
          have HL1 := HL
          go_loopw [7, 56] (fun v j' wr => ∃ (j : Nat) (xs : List (List Int)) (A : Option Addr) (c : Nat), j' = .int .i64 j ∧ j ≤ P.length ∧ v = .slice A xs.length c ∧ OwM 27 3 (.int .i64) wp.heap.size wr (.slice A xs.length c) xs.length xs ∧ MapS wr bm (xs.map keyS) ∧ i < xs.length ∧ xs.length ≤ 200 ∧ Hid (LsI n ops P i j xs) ∧ Below wp.heap.size wp wr) (fun _ j _ => P.length - (intOf j).toNat)
          case atStart => exact ⟨0, xs, A7, c7, rfl, Nat.zero_le _, rfl, hM, hMP, hlt3, hx200, HL, hT7⟩
          case round =>
            clear hM hMP HL HL1 hT7 hlt3 hi1 hi hx200
            obtain ⟨j, xs, A7, c7, rfl, hj, rfl, hM, hMP, hi, hx200, HL, hT7⟩ := hrel
            have hi1 : (i : Int) < (xs.length : Int) := by omega
            have hi0 : (0 : Int) ≤ (i : Int) := by omega
            have hj0 : (0 : Int) ≤ (j : Int) := by omega
            by_cases hltj : j < P.length
            · have hj1 : (j : Int) < (P.length : Int) := by omega
              obtain ⟨bP, oP, v1, q, rfl, hc1, ⟨Aq, nq, cq, rfl, hq⟩, -, hxq⟩ := (hrP.next stab_RVI' hT7).at hltj
              obtain ⟨bX, oX, v2, p, rfl, hc2, ⟨Ap, np, cp, rfl, hp⟩, -, hxp⟩ := (hM.rd (R := RI) fun p hp v hv => cong_rd hn8 HL.out.cong p hp v hv _).at hi
              have hcq := HPA.out.1 q (List.mem_of_getElem? hxq)
              have hcp := HL.out.cong p (List.mem_of_getElem? hxp)
              obtain rfl : n = nq := by rw [← hq.len]; exact (cong_par hcq).1.symm
              obtain rfl : n = np := by rw [← hp.len]; exact (cong_par hcp).1.symm
              have hcj := join_cong hn0 HOPS.out hcp hcq
              have HJI := join_any Ap Aq n cp cq p q wr hp hq (cong_par hcp) (cong_par hcq) hn0 (by omega)
              obtain ⟨jq, HJ⟩ : ∃ z, Hid (joinP p q = z) := ⟨_, Lib.hid rfl⟩
              rw [HJ.out] at hcj HJI
              have HJI := Lib.hid HJI
              have HJL := Lib.hid (cong_par hcj).1
              have HXP := Lib.hid hxp
              have HXQ := Lib.hid hxq
              have HCJ := Lib.hid hcj
              have hsz7 := hT7.size
              clear hcq hcp hcj hxp hxq hp hq
              go_wp2_with fail
              refine HJI.out.mono ?_
              rintro e w6 ⟨A6, c6, rfl, ho6, hb6⟩
              rw [HJL.out] at ho6 ⊢
              have T6 := below_next hT7 hb6 rfl
              clear hc1 hc2
              go_wp2_with fail
              refine (keyOf_any A6 n c6 jq w6 (rd_of_own (R := RI) ho6 (RI_ints fun v hv => by have := cong_256 hn8 HCJ.out v hv; omega)) (cong_256 hn8 HCJ.out) (by omega)).mono ?_
              rintro e w7 ⟨rfl, hb7⟩
              have T7 := below_next T6 hb7 rfl
              have hb67 := below_next hb6 hb7 rfl
              have ho7 := own_next ho6 hb7
              have hM7 := hM.next hb67
              have hMP7 := hMP.next hb67
              have hks : (keyS jq).size ≤ maxLen := key_size (by rw [HJL.out]; omega)
              have hlook := hMP7.look hks
              obtain ⟨sb, HSB⟩ : ∃ z, Hid (hasS (keyS jq) (xs.map keyS) = z) := ⟨_, Lib.hid rfl⟩
              rw [HSB.out] at hlook
              have HSI : Hid (sb = true ↔ jq ∈ xs) := by
                show _ ↔ _
                rw [← HSB.out, hasS_iff, List.mem_map]
                constructor
                · rintro ⟨r, hr, e⟩
                  exact keyS_inj (cong_256 hn8 (HL.out.cong r hr)) (cong_256 hn8 HCJ.out) e ▸ hr
                · intro h; exact ⟨jq, h, rfl⟩
              clear ho6 hb7
              rcases sb with _ | _
              · have hnot : jq ∉ xs := fun h => by have := HSI.out.2 h; cases this
                have HL2 : Hid (LsI n ops P i (j + 1) (xs ++ [jq])) := by
                  show LsI _ _ _ _ _ _
                  rw [← HJ.out] at hnot ⊢
                  exact HL.out.add HXP.out HXQ.out hnot (by rw [HJ.out]; exact HCJ.out)
                obtain ⟨w8, hput, hMP8, hg8⟩ := hMP7.put hks (by rw [List.length_map]; unfold maxLen; omega)
                obtain ⟨vs, hvs, HPU⟩ := hM.pushK (w1 := w8) (by decide) (fun h => own_put (own_next h hb67) hMP7 hg8) hsz7 (u := .slice A6 n c6) (xs := jq) (by rw [HJL.out]; exact own_put ho7 hMP7 hg8)
                have T8 : Below wp.heap.size wp w8 := T7.grown hg8 T7.size fun j hj => by cases hj; exact hm2
                have hsz8 := T8.size
                have HMP8 := Lib.hid hMP8
                have hkl : Hid ((xs ++ [jq]).map keyS = xs.map keyS ++ [keyS jq]) := by show _ = _; rw [List.map_append]; rfl
                clear hM7 hM hMP hMP7 hMP8 ho7 hnot HSI
                have hnl : Hid ((xs ++ [jq]).length = xs.length + 1) := by show _ = _; rw [List.length_append]; rfl
                go_upto_region 21 with fail
                clear hput hlook
                go_upto_region 22 with (at_builtin; refine app1 w8 rfl _ _ 33 27 rfl (.slice none 0 0) 24 Tryz.underlying33 info_ints rfl (by decide) wp.heap.size xs.length c7 (some ⟨bX, oX, none⟩) vs rfl hvs (.slice A6 n c6) rfl rfl (by omega) hsz8 ?_; intro A2 c2 w9 hown9 hg9 hb9)
                have T9 : Below wp.heap.size wp w9 := T8.grown hg9 hsz8 (fun r e => (hvs.lt r e).1)
                have hM9 := HPU hown9 hg9
                have hMP9 : MapS w9 bm ((xs ++ [jq]).map keyS) := by
                  rw [hkl.out]
                  exact HMP8.out.kept (hg9.block bm HMP8.out.lt fun e => own_ne_map hvs HMP8.out e.symm)
                rw [← hnl.out] at hM9
                by_cases h200 : (200 : Int) < ((xs.length + 1 : Nat) : Int)
                · have HNO := Lib.hid (con_no HL2.out.nd HL2.out.cong (by rw [hnl.out]; omega))
                  clear hvs HPU
                  go_wp2_with fail
                  go_ret2
                  rw [HNO.out.1]
                  exact ⟨none, 0, 0, rfl, fun h => (by cases h), below_next T0 (below_next hT T9 rfl) rfl⟩
                · clear hvs HPU
                  go_wp2_with fail
                  go_roundw
                  case rel => exact ⟨j + 1, xs ++ [jq], A2, c2, by go_num, by omega, by rw [hnl.out], hM9, hMP9, by rw [hnl.out]; omega, by rw [hnl.out]; omega, HL2, T9⟩
                  case measure => simp [intOf]; try omega
              · have HL2 : Hid (LsI n ops P i (j + 1) xs) := HL.out.had HXP.out HXQ.out (by rw [HJ.out]; exact HSI.out.1 rfl)
                have h200 : ¬ (200 : Int) < (xs.length : Int) := by omega
                clear HSI hks
                go_wp2_with fail
                go_roundw
                case rel => exact ⟨j + 1, xs, _, c7, by go_num, by omega, rfl, hM7, hMP7, hi, hx200, HL2, T7⟩
                case measure => simp [intOf]; try omega
            · obtain rfl : j = P.length := by omega
              have hj1 : ¬ (P.length : Int) < (P.length : Int) := by omega
              have HL2 : Hid (LsI n ops P (i + 1) 0 xs) := HL.out.next hltj
              go_wp2_with fail
              go_roundw
              case rel => exact ⟨i + 1, xs, A7, c7, by go_num, rfl, hM, hMP, by omega, hx200, HL2, hT7⟩
              case measure => simp [intOf]; try omega
        · obtain rfl : i = xs.length := by omega
          have hi1 : ¬ (xs.length : Int) < (xs.length : Int) := by omega
          have HS := Lib.hid (sortRows_of (cmpCong (n := n) (by omega)) wp.heap.size A7 c7 xs.length xs (fun p hp => cong_par (HL.out.cong p hp)) wr hM hT7.size (cong_rd hn8 HL.out.cong) (by omega))
          have hlen := xs.length
          clear hMP hM
          go_wp2_with (go_at_call 56; refine HS.out.mono ?_; rintro e w5 ⟨rfl, yss, hM, hP, hW, hb5⟩)
          have HA : AllC n ops yss := ⟨SrtC.of hW (hP.nodup_iff.2 HL.out.nd), fun p => hP.mem_iff.trans ⟨HL.out.cong p, HL.out.all HPA.out.1 (fun x y h1 h2 => HPA.out.2.1 x y h1 h2 (by omega)) hlt3⟩⟩
          obtain ⟨hy1, hy2⟩ := con_yes HA (by rw [hP.length_eq]; exact hx200)
          go_ret2
          rw [hy1, hy2]
          exact ⟨A7, xs.length, c7, rfl, fun _ => hM.mono (by have := T0.size; omega), below_next T0 (below_next hT (hT7.trans hb5) rfl) rfl⟩
end
/-- append of one element of two cells to a row of the call's own. -/
theorem wp_app2 {P : Program} (w0 : World) {o : Oper} {a : Act} {K : Act → World → Prop} {Q : Exit → Act → World → Prop} (s x : Operand) (t e : TypeId)
    (ho : o.op = .call { callee := .builtin .append, args := #[s, x], argTypes := #[t, t] }) (z : Value) (bytes : Nat)
    (ht : P.underlying t = some (.slice e)) (hi : (P.info? e).map (fun i => (i.zero, i.size, i.bytes)) = some (some z, 2, bytes)) (hzs : z.cells.size = 2) (hbb : bytes ≤ 64)
    (base n c : Nat) (A : Option Addr) (xs : List Value) (hs : a.eval s = .slice A n c) (hown : w0.ownsRow base e 2 (.slice A n c) n xs) (u v : Value) (h1 : u.oneCell' = true) (h2 : v.oneCell' = true) (hx : a.eval x = .slice (some ⟨w0.heap.size, 0, none⟩) 1 1)
    (hn : n ≤ 1099511627776) (hbase : base ≤ w0.heap.size)
    (hK : ∀ A' c' w', w'.ownsRow base e 2 (.slice A' (n + 1) c') (n + 1) (xs ++ [u, v]) → w0.grownBy w' (Value.slice A n c).ownBlock → Below base w0 w' → K (a.put o.dst (.slice A' (n + 1) c')) w') :
    o.wp P a (w0.alloc (.cells #[u, v] e)) K Q := by
  obtain ⟨i, hi, hz, hsize, hby⟩ := info_parts hi
  have hbound : (n + 1) * bytes ≤ 140737488355328 := Nat.le_trans (Nat.mul_le_mul_left (n + 1) hbb) (by omega)
  refine wp_append_own (w0.alloc (.cells #[u, v] e)) s x t ho base e i z 2 bytes ht hi hz hsize hby hzs (by omega) (.slice A n c) n xs hs (hown.alloc _) ⟨w0.heap.size, 0, none⟩ 1 1 [u, v] hx rfl ?_ ?_ (by unfold maxLen; omega) hbound (by simp; omega) ?_
  · intro j y hj
    match j, hj with
    | 0, hj => simp at hj; subst hj; simp [Addr.add]
    | 1, hj => simp at hj; subst hj; simp [Addr.add]
  · intro y hy
    simp at hy
    rcases hy with rfl | rfl
    · exact h1
    · exact h2
  · intro v' w' hown' hgrow _
    obtain ⟨A', c', rfl⟩ := own_slice hown'
    have hg : w0.grownBy w' (Value.slice A n c).ownBlock :=
      ⟨hgrow.os, hgrow.tape, hgrow.output, Nat.le_trans (by simp) hgrow.size, fun k hk hne => (hgrow.block k (by simp; omega) hne).trans (Below.heap_alloc w0 _ k hk)⟩
    exact hK A' c' w' hown' hg ((Below.refl base w0).grown hg hbase (fun k hk => (hown.lt k hk).1))
theorem app2 {P : Program} (w0 : World) {ops : Array Oper} {rest : List Oper} {o : Oper} {a : Act} {Q : Exit → Act → World → Prop} (hgd : o.guard = none) (s x : Operand) (t e : TypeId)
    (ho : o.op = .call { callee := .builtin .append, args := #[s, x], argTypes := #[t, t] }) (z : Value) (bytes : Nat)
    (ht : P.underlying t = some (.slice e)) (hi : (P.info? e).map (fun i => (i.zero, i.size, i.bytes)) = some (some z, 2, bytes)) (hzs : z.cells.size = 2) (hbb : bytes ≤ 64)
    (base n c : Nat) (A : Option Addr) (xs : List Value) (hs : a.eval s = .slice A n c) (hown : w0.ownsRow base e 2 (.slice A n c) n xs) (u v : Value) (h1 : u.oneCell' = true) (h2 : v.oneCell' = true) (hx : a.eval x = .slice (some ⟨w0.heap.size, 0, none⟩) 1 1)
    (hn : n ≤ 1099511627776) (hbase : base ≤ w0.heap.size)
    (hK : ∀ A' c' w', w'.ownsRow base e 2 (.slice A' (n + 1) c') (n + 1) (xs ++ [u, v]) → w0.grownBy w' (Value.slice A n c).ownBlock → Below base w0 w' → wpList P ops Q rest (a.put o.dst (.slice A' (n + 1) c')) w') :
    wpList P ops Q (o :: rest) a (w0.alloc (.cells #[u, v] e)) :=
  wpList_plain hgd fun _ hK' => wp_app2 w0 s x t e ho z bytes ht hi hzs hbb base n c A xs hs hown u v h1 h2 hx hn hbase fun A' c' w' h2 h3 h4 => hK' _ _ (hK A' c' w' h2 h3 h4)
theorem step_app2 {P : Program} (w0 : World) {ops : Array Oper} {o : Oper} {a : Act} {K : Act → World → Prop} {Q : Exit → Act → World → Prop} {E : Prop} (hgd : o.guard = none) (s x : Operand) (t e : TypeId)
    (ho : o.op = .call { callee := .builtin .append, args := #[s, x], argTypes := #[t, t] }) (z : Value) (bytes : Nat)
    (ht : P.underlying t = some (.slice e)) (hi : (P.info? e).map (fun i => (i.zero, i.size, i.bytes)) = some (some z, 2, bytes)) (hzs : z.cells.size = 2) (hbb : bytes ≤ 64)
    (base n c : Nat) (A : Option Addr) (xs : List Value) (hs : a.eval s = .slice A n c) (hown : w0.ownsRow base e 2 (.slice A n c) n xs) (u v : Value) (h1 : u.oneCell' = true) (h2 : v.oneCell' = true) (hx : a.eval x = .slice (some ⟨w0.heap.size, 0, none⟩) 1 1)
    (hn : n ≤ 1099511627776) (hbase : base ≤ w0.heap.size)
    (hK : ∀ A' c' w', w'.ownsRow base e 2 (.slice A' (n + 1) c') (n + 1) (xs ++ [u, v]) → w0.grownBy w' (Value.slice A n c).ownBlock → Below base w0 w' → K (a.put o.dst (.slice A' (n + 1) c')) w') :
    if Region.wanted o (yielded ops a.tmps) = true then Oper.wp P o a (w0.alloc (.cells #[u, v] e)) K Q else E := by
  have hw : Region.wanted o (yielded ops a.tmps) = true := by simp [Region.wanted, hgd]
  rw [if_pos hw]
  exact wp_app2 w0 s x t e ho z bytes ht hi hzs hbb base n c A xs hs hown u v h1 h2 hx hn hbase hK
theorem info_op2 : (Tryz.prog.info? 64).map (fun i => (i.zero, i.size, i.bytes)) = some (some (.agg #[.int .i64 0, .slice none 0 0]), 2, 32) := by kernel_rfl
/-- A slice of operations of the call's own, its blocks from lo on. -/
def PO (lo : Nat) (w : World) (v : Value) (xs : List OpM) (css : List (List Value)) (bls : List (List Nat)) : Prop :=
  Parts shOp 64 w v xs css bls ∧ w.ownsRow lo 64 2 v xs.length css.flatten ∧ Iv lo w.heap.size (obl v ++ bls.flatten)
theorem shOp_blk {w : World} {c : List Value} {x : OpM} {bk : List Nat} (h : shOp.own w c x bk) {b : Nat} (hb : b ∈ bk) : ∃ cur fr, w.heap[b]? = some (.cells cur 3 fr) := by
  obtain ⟨c0, c1, b0, b1, rfl, rfl, ⟨_, rfl, -, rfl⟩, ⟨v, rfl, ho, -, rfl⟩⟩ := h
  rw [List.nil_append, mem_obl] at hb
  rcases ho.2 with ⟨rfl, -⟩ | ⟨g, cap, cur, rfl, -, hh, -⟩
  · simp [Value.ownBlock] at hb
  · simp only [Value.ownBlock, Option.some.injEq] at hb
    subst hb
    exact ⟨_, _, hh⟩
theorem row_blk {w : World} {base size n : Nat} {e : TypeId} {v : Value} {xs : List Value} (h : w.ownsRow base e size v n xs) {b : Nat} (hb : b ∈ obl v) : ∃ cur fr, w.heap[b]? = some (.cells cur e fr) := by
  rw [mem_obl] at hb
  rcases h.2 with ⟨rfl, -⟩ | ⟨g, cap, cur, rfl, -, hh, -⟩
  · simp [Value.ownBlock] at hb
  · simp only [Value.ownBlock, Option.some.injEq] at hb
    subst hb
    exact ⟨_, _, hh⟩
theorem obl_nd (v : Value) : (obl v).Nodup := by
  unfold obl
  cases v.ownBlock <;> simp
section
variable {lo : Nat} {w : World} {v : Value} {xs : List OpM} {css : List (List Value)} {bls : List (List Nat)}
theorem PO.nil (lo : Nat) (w : World) : PO lo w (.slice none 0 0) [] [] [] :=
  ⟨⟨⟨rfl, .inl ⟨rfl, rfl⟩⟩, rfl, rfl, fun k c x bk h => by simp at h⟩, ⟨rfl, .inl ⟨rfl, rfl⟩⟩, Iv.nil _ _⟩
theorem PO.own (h : PO lo w v xs css bls) : (Sh.rows shOp 64).own w [v] xs (obl v ++ bls.flatten) := ⟨v, css, bls, rfl, h.1, rfl⟩
theorem PO.next {w' : World} (h : PO lo w v xs css bls) (hb : Below w.heap.size w w') : PO lo w' v xs css bls :=
  ⟨h.1.same fun b hb' => hb.block b (h.1.lt b hb'), own_next h.2.1 hb, h.2.2.mono (Nat.le_refl _) hb.size⟩
theorem PO.same {w' : World} (h : PO lo w v xs css bls) (hz : w.heap.size ≤ w'.heap.size) (hs : ∀ b ∈ obl v ++ bls.flatten, w'.heap[b]? = w.heap[b]?) : PO lo w' v xs css bls :=
  ⟨h.1.same hs, own_same h.2.1 fun b hb => hs b (List.mem_append_left _ (mem_obl.2 hb)), h.2.2.mono (Nat.le_refl _) hz⟩
theorem PO.mono {lo' : Nat} (h : PO lo w v xs css bls) (hl : lo' ≤ lo) : PO lo' w v xs css bls := ⟨h.1, own_mono h.2.1 hl, h.2.2.mono hl (Nat.le_refl _)⟩
theorem PO.push (h : PO lo w v xs css bls) {w1 : World} (hb : Below w.heap.size w w1) (hlo : lo ≤ w.heap.size) {c : List Value} {x : OpM} {bk : List Nat} (ho : shOp.own w1 c x bk) (hiv : Iv w.heap.size w1.heap.size bk) :
    w1.ownsRow lo 64 2 v xs.length css.flatten ∧ ∀ {w2 : World} {v' : Value}, w2.ownsRow lo 64 2 v' (xs.length + 1) (css.flatten ++ c) → w1.grownBy w2 v.ownBlock → PO lo w2 v' (xs ++ [x]) (css ++ [c]) (bls ++ [bk]) := by
  have h1 := h.next hb
  refine ⟨h1.2.1, fun {w2 v'} hown hg => ?_⟩
  have hnd := List.nodup_append.1 h.2.2.1
  have far : ∀ b, b ∈ bls.flatten → w2.heap[b]? = w1.heap[b]? := fun b hb' => hg.block b (h1.2.2.2 b (List.mem_append_right _ hb')).2 fun e => hnd.2.2 b (mem_obl.2 e.symm) b hb' rfl
  have far2 : ∀ b, b ∈ bk → w2.heap[b]? = w1.heap[b]? := fun b hb' => hg.block b (hiv.2 b hb').2 fun e => by
    have h3 := (h.2.2.2 b (List.mem_append_left _ (mem_obl.2 e.symm))).2
    have h4 := (hiv.2 b hb').1
    omega
  have hl1 := h.1.l1
  have hl2 := h.1.l2
  have hP : Parts shOp 64 w2 v' (xs ++ [x]) (css ++ [c]) (bls ++ [bk]) := by
    refine ⟨?_, by simp [hl1], by simp [hl2], fun k c' x' bk' e1 e2 e3 => ?_⟩
    · rw [List.length_append, List.flatten_append, List.flatten_singleton]
      exact own_mono hown (Nat.zero_le _)
    · by_cases hk : k < xs.length
      · rw [List.getElem?_append_left (by omega)] at e1 e2 e3
        exact shOp.osame (h1.1.el k c' x' bk' e1 e2 e3) fun b hb' => far b (List.mem_flatten.2 ⟨_, List.mem_of_getElem? e3, hb'⟩)
      · have hk2 : k = xs.length := by
          have := (List.getElem?_eq_some_iff.1 e2).1
          simp at this
          omega
        subst hk2
        rw [List.getElem?_append_right (by omega)] at e1 e2 e3
        simp [hl1, hl2] at e1 e2 e3
        subst e1
        subst e2
        subst e3
        exact shOp.osame ho far2
  refine ⟨hP, by rw [List.length_append, List.flatten_append]; simpa using hown, ?_⟩
  rw [List.flatten_append]
  have hz : w1.heap.size ≤ w2.heap.size := hg.size
  have hzb := hb.size
  refine ⟨?_, fun b hb' => ?_⟩
  · rw [List.nodup_append]
    refine ⟨obl_nd _, ?_, fun a ha b hb' e => ?_⟩
    · rw [List.nodup_append]
      refine ⟨hnd.2.1, by simpa using hiv.1, fun a ha b hb' e => ?_⟩
      simp at hb'
      subst e
      have h3 := (h.2.2.2 a (List.mem_append_right _ ha)).2
      have h4 := (hiv.2 a hb').1
      omega
    · subst e
      obtain ⟨cur, fr, hc⟩ := row_blk hown ha
      have hb2 : a ∈ (bls ++ [bk]).flatten := by rw [List.flatten_append]; exact hb'
      obtain ⟨bq, hbq, hab⟩ := List.mem_flatten.1 hb2
      obtain ⟨k, hk⟩ := List.getElem?_of_mem hbq
      have hkl := (List.getElem?_eq_some_iff.1 hk).1
      have e1 := hP.l1
      have e2 := hP.l2
      have ho2 := hP.el k _ _ bq (List.getElem?_eq_getElem (by omega)) (List.getElem?_eq_getElem (by omega)) hk
      obtain ⟨cur2, fr2, hc2⟩ := shOp_blk ho2 hab
      rw [hc] at hc2
      injection hc2 with hc2
      injection hc2 with _ h5
      exact absurd h5 (by decide)
  · rcases List.mem_append.1 hb' with hb' | hb'
    · exact hown.lt b (mem_obl.1 hb')
    · rcases List.mem_append.1 hb' with hb' | hb'
      · have := h.2.2.2 b (List.mem_append_right _ hb')
        omega
      · have := hiv.2 b (by simpa using hb')
        omega
theorem set_nil_same {α : Type} {l : List α} {i : Nat} {x : α} (h : l[i]? = some x) : l.set i x = l := by
  apply List.ext_getElem?
  intro j
  rw [List.getElem?_set]
  by_cases hj : i = j
  · subst hj
    rw [if_pos rfl, if_pos (List.getElem?_eq_some_iff.1 h).1, h]
  · rw [if_neg hj]
theorem PO.tab (h : PO lo w v xs css bls) {k : Nat} {a : Int} {t : List Int} (hk : xs[k]? = some (a, t)) (ht : t ≠ []) :
    ∃ g cap tb d, v = .slice (some ⟨g, 0, none⟩) xs.length cap ∧ w.cell? ⟨g, k * 2, none⟩ = some (.int .i64 a) ∧ w.cell? ⟨g, k * 2 + 1, none⟩ = some (.slice (some ⟨tb, 0, none⟩) t.length d) ∧ lo ≤ tb ∧ tb < w.heap.size ∧
      (∀ p, w.frozen? ⟨tb, p, none⟩ = false) ∧ (∀ p x, t[p]? = some x → w.cell? ⟨tb, p, none⟩ = some (.int .i64 x)) ∧ tb ∈ bls.flatten ∧
      ∀ p u, InR u → PO lo (w.setCell ⟨tb, p, none⟩ (.int .i64 u)) v (xs.set k (a, t.set p u)) css bls := by
  obtain ⟨hP, hrow, hiv⟩ := h
  have hkl := (List.getElem?_eq_some_iff.1 hk).1
  obtain ⟨g, cap, hv⟩ := hP.slice hkl
  have hl1 := hP.l1
  have hl2 := hP.l2
  have hcj : css[k]? = some (css[k]'(by omega)) := List.getElem?_eq_getElem (by omega)
  have hbj : bls[k]? = some (bls[k]'(by omega)) := List.getElem?_eq_getElem (by omega)
  generalize css[k]'(by omega) = cj at hcj
  generalize bls[k]'(by omega) = bk at hbj
  have ho := hP.el k cj (a, t) bk hcj hk hbj
  have ho0 := ho
  obtain ⟨c0, c1, b0, b1, rfl, rfl, ⟨_, rfl, ⟨rfl, lo0, hi0⟩, rfl⟩, ⟨tv, rfl, O1, hR, rfl⟩⟩ := ho
  obtain ⟨tb, d, rfl⟩ : ∃ tb d, tv = .slice (some ⟨tb, 0, none⟩) t.length d := by
    rcases O1.2 with ⟨-, h0⟩ | ⟨g', cap', cur, rfl, -⟩
    · exact absurd (List.length_eq_zero_iff.1 h0) ht
    · exact ⟨_, _, rfl⟩
  have htm : tb ∈ bls.flatten := List.mem_flatten.2 ⟨_, List.mem_of_getElem? hbj, by simp [obl, Value.ownBlock]⟩
  have hbd := hiv.2 tb (List.mem_append_right _ htm)
  have hgb : tb ∉ obl v := fun hh => (List.nodup_append.1 hiv.1).2.2 tb hh tb htm rfl
  refine ⟨g, cap, tb, d, hv, hP.cell hv hcj (i := 0) rfl, hP.cell hv hcj (i := 1) rfl, hbd.1, hbd.2, fun p => O1.frozenAt p, fun p x hx => ?_, htm, fun p u hu => ?_⟩
  · have hpl := (List.getElem?_eq_some_iff.1 hx).1
    rw [O1.cellAt p (by show p < t.length * 1; omega)]
    show (t.map (Value.int .i64))[p]? = _
    rw [List.getElem?_map, hx]
    rfl
  · have hfar : ∀ b, b ≠ tb → (w.setCell ⟨tb, p, none⟩ (.int .i64 u)).heap[b]? = w.heap[b]? := fun b hb => Below.heap_setCell w _ _ b hb
    have hO2 : (w.setCell ⟨tb, p, none⟩ (.int .i64 u)).ownsRow 0 3 1 (.slice (some ⟨tb, 0, none⟩) t.length d) (t.set p u).length (ints (t.set p u)) := by
      have := (O1.stored p (.int .i64 u)).1
      rw [ints_set] at this
      simpa using this
    have hRu : ∀ y ∈ t.set p u, InR y := fun y hy => by
      rcases List.mem_or_eq_of_mem_set hy with h1 | h1
      · exact hR y h1
      · rw [h1]; exact hu
    have hrow2 : (w.setCell ⟨tb, p, none⟩ (.int .i64 u)).ownsRow lo 64 2 v xs.length css.flatten := own_same hrow fun b hb => hfar b fun e => hgb (by rw [← e]; exact mem_obl.2 hb)
    have hset : setAll css.flatten (k * shOp.m) [.int .i64 a, .slice (some ⟨tb, 0, none⟩) t.length d] = css.flatten := by
      have F0 : css.flatten[k * 2]? = some (.int .i64 a) := by have := flat_get hP.all k 0 (by decide); rw [hcj] at this; exact this
      have F1 : css.flatten[k * 2 + 1]? = some (.slice (some ⟨tb, 0, none⟩) t.length d) := by have := flat_get hP.all k 1 (by decide); rw [hcj] at this; exact this
      show (css.flatten.set (k * 2) _).set (k * 2 + 1) _ = _
      rw [set_same F0, set_same F1]
    have hPP := hP.put (w' := w.setCell ⟨tb, p, none⟩ (.int .i64 u)) hiv.1 hbj (c' := [.int .i64 a, .slice (some ⟨tb, 0, none⟩) t.length d]) (x' := (a, t.set p u)) (by rw [hset]; exact own_mono hrow2 (Nat.zero_le _))
      ⟨[.int .i64 a], [.slice (some ⟨tb, 0, none⟩) t.length d], [], [tb], rfl, rfl, ⟨_, rfl, ⟨rfl, lo0, hi0⟩, rfl⟩, ⟨_, rfl, hO2, hRu, rfl⟩⟩
      (fun b hb hn => hfar b fun e => hn (by rw [e]; simp [obl, Value.ownBlock]))
    have ecss : css.set k [.int .i64 a, .slice (some ⟨tb, 0, none⟩) t.length d] = css := set_nil_same hcj
    rw [ecss] at hPP
    exact ⟨hPP, by rw [List.length_set]; exact hrow2, by
      have : (w.setCell ⟨tb, p, none⟩ (.int .i64 u)).heap.size = w.heap.size := by simp
      rw [this]
      exact hiv⟩
end
theorem cloneOp_any (cs : List Value) (x : OpM) (w : World) (h : shOp.rd w cs x) (hn : x.2.length ≤ 1048576) :
    Calls Tryz.prog 76 #[.agg cs.toArray] w (ToE shOp w x) := by
  obtain ⟨B, m, d, rfl, qa, qt⟩ := rdOp h
  have hm := qt.len
  obtain ⟨w0, hw0, T0, hs0, BP, BR⟩ := boxes2 w #[.int .i64 x.1, .slice B m d] #[.int .i64 0, .slice none 0 0] 64 64
  have HW0 := Lib.hid hw0
  have HR := Lib.hid qt.bounds
  have qt0 := qt.next stab_RI T0
  have hz0 : w0.heap.size = w.heap.size + 2 := hs0
  have HZ0 := Lib.hid hz0
  clear hw0 hs0 hz0
  have cP0 := BP.cell 0
  have cP1 := BP.cell 1
  have cR0 := BR.cell 0
  have cR1 := BR.cell 1
  have fR0 := BR.frozen 0
  have fR1 := BR.frozen 1
  simp at cP0 cP1 cR0 cR1
  go_enter Tryz.func76, Tryz.ntmps76
  go_upto_region 1 with fail
  rw [← HW0.out]
  go_region_with (go_at_call 67; refine (clone_any _ _ _ x.2 _ (by first | exact qt0 | exact qt0.drew stab_RI) (by omega)).mono ?_; rintro e w2 ⟨A', c', rfl, ho, hbn⟩; have hb := below_next (Below.drew (Below.refl w0.heap.size w0)) hbn rfl; have BP2 := BP.next hb; have BR2 := BR.next hb; have dP0 := BP2.cell 0; have dP1 := BP2.cell 1; have dR0 := BR2.cell 0; have dR1 := BR2.cell 1; have gR0 := BR2.frozen 0; have gR1 := BR2.frozen 1; simp at dP0 dP1 dR0 dR1)
  all_goals
    have T2 := below_next T0 hb rfl
    have hz2 := hb.size
    have hne := own_off ho BR2 (by decide)
    have hO := own_set (own_set ho (p := ⟨w.heap.size + 1, 0, none⟩) hne (.int .i64 x.1)) (p := ⟨w.heap.size + 1, 1, none⟩) hne (.slice A' m c')
    have BRR : Blk ((w2.setCell ⟨w.heap.size + 1, 0, none⟩ (.int .i64 x.1)).setCell ⟨w.heap.size + 1, 1, none⟩ (.slice A' m c')) (w.heap.size + 1) 64 #[.int .i64 x.1, .slice A' m c'] := by simpa using ((BR2.set_ 0 (.int .i64 x.1)).set_ 1 (.slice A' m c'))
    have hiv := obl_iv hO
    have hO2 : ((w2.setCell ⟨w.heap.size + 1, 0, none⟩ (.int .i64 x.1)).setCell ⟨w.heap.size + 1, 1, none⟩ (.slice A' m c')).ownsRow 0 3 1 (.slice A' m c') x.2.length (ints x.2) := by rw [hm]; exact own_mono hO (Nat.zero_le _)
    have hT : Below w.heap.size w ((w2.setCell ⟨w.heap.size + 1, 0, none⟩ (.int .i64 x.1)).setCell ⟨w.heap.size + 1, 1, none⟩ (.slice A' m c')) := (T2.setCell (by show _ ≤ _; simp) _).setCell (by show _ ≤ _; simp) _
    have hlow : w.heap.size ≤ w0.drew.heap.size := T0.size
    go_wp2
    (try simp only [Exit.inBlock, Exit.then])
    refine bodyPost_ret (v := .agg #[.int .i64 x.1, .slice A' m c']) (results_cell_row rfl _ _ (w.heap.size + 1) 64 #[.int .i64 x.1, .slice A' m c'] (0, 0) _ (by simp) BRR Tryz.underlying64 rfl (by kernel_rfl)) rfl ?_
    exact ⟨[.int .i64 x.1, .slice A' m c'], obl (.slice A' m c'), rfl, ⟨[.int .i64 x.1], [.slice A' m c'], [], obl (.slice A' m c'), rfl, rfl, ⟨_, rfl, ⟨rfl, qa.1, qa.2⟩, rfl⟩, ⟨_, rfl, hO2, HR.out, rfl⟩⟩, hiv.mono hlow (Nat.le_refl _), hT⟩
/-- An algebra handed back, its slices the call's own. -/
def AlgE (w : World) (x : AlgebraM) (e : Ending) (w' : World) : Prop := ∃ v css bls, e = .returned (.agg #[.int .i64 x.1, v]) ∧ PO w.heap.size w' v x.2 css bls ∧ Below w.heap.size w w'
theorem PO.far {lo : Nat} {w : World} {v : Value} {xs : List OpM} {css : List (List Value)} {bls : List (List Nat)} (h : PO lo w v xs css bls) {p : Addr} (hp : p.block < lo) (u : Value) : PO lo (w.setCell p u) v xs css bls :=
  h.same (by simp) fun b hb => Below.heap_setCell w p u b (by have := (h.2.2.2 b hb).1; omega)
theorem PO.algO {lo : Nat} {w : World} {v : Value} {a : Int} {xs : List OpM} {css : List (List Value)} {bls : List (List Nat)} (h : PO lo w v xs css bls) (ha : InR a) : shAlgebra.own w [.int .i64 a, v] (a, xs) (obl v ++ bls.flatten) :=
  ⟨[.int .i64 a], [v], [], obl v ++ bls.flatten, rfl, rfl, ⟨_, rfl, ⟨rfl, ha.1, ha.2⟩, rfl⟩, h.own⟩
theorem nilAlg (w : World) : shAlgebra.own w [.int .i64 0, .slice none 0 0] (0, []) [] := by
  have := (PO.nil 0 w).algO (a := 0) ⟨by omega, by omega⟩
  exact this
theorem take_snoc {α : Type} {l : List α} {k : Nat} {x : α} (h : l[k]? = some x) : l.take (k + 1) = l.take k ++ [x] := by rw [List.take_add_one, h]; rfl
theorem cloneAlgebra_any (cs : List Value) (x : AlgebraM) (w : World) (h : shAlgebra.rd w cs x) (hn : shAlgebra.cnt x ≤ 1048576) :
    Calls Tryz.prog 47 #[.agg cs.toArray] w (AlgE w x) := by
  obtain ⟨B, m, d, rfl, qs, qo⟩ := rdAlgebra h
  have hm := qo.len
  have hcn : 0 + (x.2.length + cntS shOp.cnt x.2) ≤ 1048576 := hn
  have HCN := Lib.hid hcn
  have hle : m ≤ 1048576 := by omega
  obtain ⟨w0, hw0, T0, hs0, BP, BR, BO⟩ := boxes3 w #[.int .i64 x.1, .slice B m d] #[.int .i64 0, .slice none 0 0] #[.int .i64 x.1, .slice none 0 0] 26 26
  have HW0 : Hid (_ = w0) := hw0.symm
  have HZ0 := Lib.hid hs0
  have cP0 := ((Blk.new w 26 #[.int .i64 x.1, .slice B m d]).alloc (.cells #[.int .i64 0, .slice none 0 0] 26)).cell 0
  have cP1 := BP.cell 1
  simp at cP0 cP1
  rw [hw0] at cP1
  have hP0 : PO w0.heap.size w0 (.slice none 0 0) (x.2.take 0) [] [] := PO.nil _ _
  clear hw0 hs0 hcn
  go_enter Tryz.func47, Tryz.ntmps47
  go_wp2_with fail
  clear cP0 cP1
  go_loopw [12] (fun i wr => ∃ (k : Nat) (v : Value) (css : List (List Value)) (bls : List (List Nat)), k ≤ m ∧ i = .int .i64 k ∧ Blk wr (w.heap.size + 1 + 1) 26 #[.int .i64 x.1, v] ∧ Blk wr (w.heap.size + 1) 26 #[.int .i64 0, .slice none 0 0] ∧ PO w0.heap.size wr v (x.2.take k) css bls ∧ Below w.heap.size w wr) (fun i _ => m - (intOf i).toNat)
  case atStart =>
    rw [HW0.out]
    exact ⟨0, _, _, _, Nat.zero_le _, rfl, BO, BR, hP0, T0⟩
  case round =>
    clear hP0 BO BR BP
    obtain ⟨k, v, css, bls, hk, rfl, BO, BR, hPO, hT⟩ := hrel
    by_cases hlt : k < m
    · have hk0 : (0 : Int) ≤ (k : Int) := by omega
      have hk1 : (k : Int) < (m : Int) := by omega
      obtain ⟨b, o, vs, y, rfl, -, hc, hr, -, hx⟩ := (qo.next hT).at hlt
      obtain ⟨B', m', d', rfl, qa, qt⟩ := rdOp hr
      have cc0 : wr.cell? ⟨b, o + k * 2, none⟩ = some (.int .i64 y.1) := hc 0 _ rfl
      have cc1 : wr.cell? ⟨b, o + k * 2 + 1, none⟩ = some (.slice B' m' d') := hc 1 _ rfl
      have HTS : Hid (x.2.take (k + 1) = x.2.take k ++ [y]) := take_snoc hx
      have hcy : y.2.length ≤ 1048576 := by
        have h1 := cntS_mem (f := shOp.cnt) (List.mem_of_getElem? hx)
        have h2 := HCN.out
        have h3 : shOp.cnt y = 0 + y.2.length := rfl
        omega
      obtain ⟨L, HL⟩ : ∃ L, Hid (x.2.take k = L) := ⟨_, rfl⟩
      have HLK : Hid (L.length = k) := by show _ = _; rw [← HL.out, List.length_take]; omega
      rw [HL.out] at hPO
      have HTS2 : Hid (x.2.take (k + 1) = L ++ [y]) := by show _ = _; rw [HTS.out, HL.out]
      obtain ⟨A, c, rfl⟩ := own_slice hPO.2.1
      obtain ⟨w5, hw5, T5, hs5, BY⟩ := boxes1 wr #[.int .i64 y.1, .slice B' m' d'] 64
      have HW5 := Lib.hid hw5
      have hP5 := hPO.next T5
      have hr5 := shOp.stab hr T5.block
      have BO5 := BO.next T5
      have BR5 := BR.next T5
      have hT5 := below_next hT T5 rfl
      have cO5 := BO5.cell 1
      have fO5 := BO5.frozen 1
      have cY0 := BY.cell 0
      have cY1 := BY.cell 1
      simp at cO5 cY0 cY1
      have hwz0 : w0.heap.size ≤ w5.heap.size := by
        rcases hP5.2.1.2 with ⟨h1, h2⟩ | ⟨g9, _, _, h1, h2, _⟩
        · have := hT5.size
          have h9 := BO5.lt
          have h8 := HZ0.out
          omega
        · injection h1 with h1
          have := hP5.2.2.2 g9 (List.mem_append_left _ (by rw [h1]; simp [obl, Value.ownBlock]))
          omega
      clear hw5 hs5 hc hx hr hPO
      go_upto_region 5 with fail
      rw [← HW5.out]
      clear cc0 cc1
      go_region_law (first
        | (refine step_app2 w6 rfl (.tmp 17) (.tmp 20) 24 64 rfl (.agg #[.int .i64 0, .slice none 0 0]) 32 Tryz.underlying24 info_op2 rfl (by decide) w0.heap.size L.length c A css.flatten (by rfl) hvs (.int .i64 y.1) (.slice B6 m6 d6) rfl rfl (by rfl) (by have := HLK.out; omega) (by omega) ?_; intro A8 c8 w8 hown8 hg8 hb8; have BO8 := BO6.grown hg8 (fun e => own_off hvs BO6 (by decide) e.symm); have BR8 := BR6.grown hg8 (fun e => own_off hvs BR6 (by decide) e.symm); have cO8 := BO8.cell 1; have fO8 := BO8.frozen 1; simp at cO8)
        | (go_simp; go_at_call 76; refine (cloneOp_any [.int .i64 y.1, .slice B' m' d'] y _ (by first | exact hr5 | exact shOp.stab hr5 (fun _ _ => rfl)) hcy).mono ?_; rintro e w6 ⟨ds, bk, rfl, how, hiv, hbn⟩; obtain ⟨B6, m6, d6, rfl, -, -⟩ := rdOp (shOp.ord how); have hb := below_next (Below.drew (Below.refl w5.heap.size w5)) hbn rfl; have hiv6 : Iv w5.heap.size w6.heap.size bk := hiv; obtain ⟨hvs, HPU⟩ := hP5.push hb hwz0 how hiv6; have hsz6 := hb.size; have BO6 := BO5.next hb; have BR6 := BR5.next hb; have cO6 := BO6.cell 1; have fO6 := BO6.frozen 1; have dY0 := (BY.next hb).cell 0; have dY1 := (BY.next hb).cell 1; have cO6a := (BO6.alloc (.cells #[.int .i64 y.1, .slice B6 m6 d6] 64)).cell 1; simp at cO6 dY0 dY1 cO6a))
      all_goals
        have PN2 := (HPU hown8 hg8).far (p := ⟨w.heap.size + 1 + 1, 1, none⟩) (by have := HZ0.out; show w.heap.size + 1 + 1 < w0.heap.size; omega) (.slice A8 (L.length + 1) c8)
        have hT8 := ((below_next hT5 hb rfl).trans (hb8.mono (by have := HZ0.out; omega))).setCell (p := ⟨w.heap.size + 1 + 1, 1, none⟩) (by show _ ≤ _; simp; try omega) (.slice A8 (L.length + 1) c8)
        have BO9 : Blk (w8.setCell ⟨w.heap.size + 1 + 1, 1, none⟩ (.slice A8 (L.length + 1) c8)) (w.heap.size + 1 + 1) 26 #[.int .i64 x.1, .slice A8 (L.length + 1) c8] := by simpa using BO8.set_ 1 (.slice A8 (L.length + 1) c8)
        have BR9 := BR8.far (p := ⟨w.heap.size + 1 + 1, 1, none⟩) (by simp) (.slice A8 (L.length + 1) c8)
        have HFIN := Lib.hid (And.intro BO9 (And.intro BR9 (And.intro PN2 hT8)))
        clear BO9 BR9 PN2 hT8 cO6 fO6 cO6a dY0 dY1 cO8 fO8 hown8 hg8 hb8 BO8 BR8 BO6 BR6 hvs HPU how hbn hb
        go_wp2_with fail
        go_roundw
        case rel => exact ⟨k + 1, _, _, _, by omega, by go_num, HFIN.out.1, HFIN.out.2.1, by rw [HTS2.out]; exact HFIN.out.2.2.1, HFIN.out.2.2.2⟩
        case measure => simp [intOf]; omega
    · obtain rfl : k = m := by omega
      have hlt' : ¬ (k : Int) < (k : Int) := by omega
      have hP : PO w0.heap.size wr v x.2 css bls := by rw [List.take_of_length_le (by omega)] at hPO; exact hPO
      obtain ⟨A, c, hv⟩ := own_slice hP.2.1
      rw [hm] at hv
      subst hv
      have hlow : w.heap.size ≤ w0.heap.size := by have := HZ0.out; omega
      have hPF := ((hP.far (p := ⟨w.heap.size + 1, 0, none⟩) (by have := HZ0.out; show w.heap.size + 1 < w0.heap.size; omega) (.int .i64 x.1)).far (p := ⟨w.heap.size + 1, 1, none⟩) (by have := HZ0.out; show w.heap.size + 1 < w0.heap.size; omega) (.slice A k c)).mono hlow
      have hTF := (hT.setCell (p := ⟨w.heap.size + 1, 0, none⟩) (by show _ ≤ _; simp) (.int .i64 x.1)).setCell (p := ⟨w.heap.size + 1, 1, none⟩) (by show _ ≤ _; simp) (.slice A k c)
      have cO0 := BO.cell 0
      have cO1 := BO.cell 1
      have cR0 := BR.cell 0
      have cR1 := BR.cell 1
      have fR0 := BR.frozen 0
      have fR1 := BR.frozen 1
      have BRR : Blk ((wr.setCell ⟨w.heap.size + 1, 0, none⟩ (.int .i64 x.1)).setCell ⟨w.heap.size + 1, 1, none⟩ (.slice A k c)) (w.heap.size + 1) 26 #[.int .i64 x.1, .slice A k c] := by simpa using ((BR.set_ 0 (.int .i64 x.1)).set_ 1 (.slice A k c))
      have HPF := Lib.hid hPF
      simp at cO0 cO1 cR0 cR1
      clear hP hPF hPO
      go_wp2_with fail
      (try simp only [Exit.inBlock, Exit.then])
      refine bodyPost_ret (v := .agg #[.int .i64 x.1, .slice A k c]) (results_cell_row rfl _ _ (w.heap.size + 1) 26 #[.int .i64 x.1, .slice A k c] (0, 0) _ (by simp) BRR Tryz.underlying26 rfl (by kernel_rfl)) rfl ?_
      exact ⟨_, css, bls, rfl, HPF.out, hTF⟩
def opsTo (z : Nat) (s : List Int) (ops : List OpM) (k : Nat) : List OpM := (ops.take k).map (renOp z s) ++ ops.drop k
theorem opsTo_len (z : Nat) (s : List Int) (ops : List OpM) (k : Nat) : (opsTo z s ops k).length = ops.length := by unfold opsTo; simp; omega
theorem opsTo_get {z : Nat} {s : List Int} {ops : List OpM} {k : Nat} {y : OpM} (h : ops[k]? = some y) : (opsTo z s ops k)[k]? = some y := by
  have hk := (List.getElem?_eq_some_iff.1 h).1
  unfold opsTo
  rw [List.getElem?_append_right (by simp; omega)]
  simp
  rw [show k + (k - min k ops.length) = k by omega]
  exact h
theorem opsTo_next {z : Nat} {s : List Int} {ops : List OpM} {k : Nat} {y : OpM} (h : ops[k]? = some y) : (opsTo z s ops k).set k (renOp z s y) = opsTo z s ops (k + 1) := by
  have hk := (List.getElem?_eq_some_iff.1 h).1
  unfold opsTo
  rw [take_snoc h, List.map_append, List.set_append_right _ _ (by simp; omega)]
  have : ops.drop k = y :: ops.drop (k + 1) := by
    rw [List.drop_eq_getElem_cons hk]
    congr
    exact (List.getElem?_eq_some_iff.1 h).2
  rw [this]
  simp
  rw [show k - min k ops.length = 0 by omega]
  rfl
theorem opsTo_all {z : Nat} {s : List Int} {ops : List OpM} {k : Nat} (h : ops.length ≤ k) : opsTo z s ops k = ops.map (renOp z s) := by
  unfold opsTo
  rw [List.take_of_length_le h, List.drop_eq_nil_of_le h, List.append_nil]
def mixD (s : List Int) (D : List Nat) (j : Nat) : List Nat := (D.take j).map (nmAt s) ++ D.drop j
theorem mixD_get {s : List Int} {D : List Nat} {j d : Nat} (h : D[j]? = some d) : (mixD s D j)[j]? = some d := by
  have hk := (List.getElem?_eq_some_iff.1 h).1
  unfold mixD
  rw [List.getElem?_append_right (by simp; omega)]
  simp
  rw [show j + (j - min j D.length) = j by omega]
  exact h
theorem mixD_next {s : List Int} {D : List Nat} {j d : Nat} (h : D[j]? = some d) : (mixD s D j).set j (nmAt s d) = mixD s D (j + 1) := by
  have hk := (List.getElem?_eq_some_iff.1 h).1
  unfold mixD
  rw [take_snoc h, List.map_append, List.set_append_right _ _ (by simp; omega)]
  have : D.drop j = d :: D.drop (j + 1) := by
    rw [List.drop_eq_getElem_cons hk]
    congr
    exact (List.getElem?_eq_some_iff.1 h).2
  rw [this]
  simp
  rw [show j - min j D.length = 0 by omega]
  rfl
theorem mixD_all {s : List Int} {D : List Nat} {j : Nat} (h : D.length ≤ j) : mixD s D j = D.map (nmAt s) := by
  unfold mixD
  rw [List.take_of_length_le h, List.drop_eq_nil_of_le h, List.append_nil]
theorem nats_set (l : List Nat) (p v : Nat) : (nats l).set p (v : Int) = nats (l.set p v) := by simp [nats, List.map_set]
theorem nats_at {l : List Nat} {k d : Nat} (h : l[k]? = some d) : (nats l)[k]? = some (d : Int) := by simp [nats, h]
theorem nats_R {l : List Nat} {b : Nat} (h : ∀ d ∈ l, d ≤ b) (hb : b ≤ 1048576) {w : World} : ∀ v ∈ nats l, RI w (.int .i64 v) v := by
  intro v hv
  unfold nats at hv
  rw [List.mem_map] at hv
  obtain ⟨d, hd, rfl⟩ := hv
  have := h d hd
  exact ⟨rfl, by omega, by omega⟩
theorem op_len {n : Nat} {o : OpM} (h : OpP n o) (hn : n ≤ 8) : o.2.length ≤ 4096 := by
  rw [h.2.2.1]
  exact pow_bd hn (by have := h.2.1; omega)
theorem cnt_alg {x : AlgebraM} (h : AlgP x) : shAlgebra.cnt x ≤ 1048576 := by
  have key : ∀ l : List OpM, (∀ o ∈ l, OpP x.1.toNat o) → cntS shOp.cnt l ≤ l.length * 4096 := by
    intro l
    induction l with
    | nil => intro _; exact Nat.zero_le _
    | cons o l ih =>
      intro hl
      rw [cntS_cons, List.length_cons, Nat.succ_mul]
      have h1 := ih fun o ho => hl o (by simp [ho])
      have h2 := op_len (hl o (by simp)) (by have := h.2.1; omega)
      have h3 : shOp.cnt o = 0 + o.2.length := rfl
      omega
  have h1 := key x.2 h.2.2.2
  have h2 := h.2.2.1
  have h3 : shAlgebra.cnt x = 0 + (x.2.length + cntS shOp.cnt x.2) := rfl
  have h4 := Nat.mul_le_mul_right 4096 h2
  omega
theorem cell_far {w : World} {p a : Addr} {v u : Value} (h : a.block ≠ p.block) (hc : w.cell? a = some v) : (w.setCell p u).cell? a = some v := (World.cell?_of_block (Below.heap_setCell w p u _ h)).trans hc
theorem cell_farD {w : World} {p a : Addr} {v u : Value} (h : a.block ≠ p.block) (hc : w.cell? a = some v) : (w.setCell p u).drew.cell? a = some v := cell_far h hc
theorem rename8_any (cs : List Value) (x : AlgebraM) (N : Option Addr) (n cN : Nat) (s : List Int) (w : World) (h : shAlgebra.rd w cs x) (hs : RdL RI w N n s) (hx : AlgP x) (hp : PermL x.1.toNat s) :
    Calls Tryz.prog 23 #[.agg cs.toArray, .slice N n cN] w (AlgE w (ren x s)) := by
  have hcnt := cnt_alg hx
  obtain ⟨a, ops⟩ := x
  obtain ⟨z, rfl⟩ : ∃ z : Nat, a = (z : Int) := ⟨a.toNat, by have h1 : 1 ≤ a := hx.1; omega⟩
  have hz1 : 1 ≤ z := by have h1 : (1 : Int) ≤ (z : Int) := hx.1; omega
  have hz5 : z ≤ 8 := by have h1 : (z : Int) ≤ 8 := hx.2.1; omega
  have hm4 : ops.length ≤ 4 := hx.2.2.1
  have HOP : Hid (∀ o ∈ ops, OpP z o) := fun o ho => by have := hx.2.2.2 o ho; simpa using this
  have HPM : Hid (PermL z s) := by show PermL z s; simpa using hp
  have hnz : n = z := by rw [← hs.len]; exact HPM.out.1
  subst hnz
  have HREN : Hid (ren ((n : Int), ops) s = ((n : Int), ops.map (renOp n s))) := by show _ = _; unfold ren; simp
  have hrd := h
  obtain ⟨B, m, d, rfl, qs, qo⟩ := rdAlgebra h
  obtain rfl : ops.length = m := qo.len
  obtain ⟨w0, hw0, T0, hs0, BP, BR⟩ := boxes2 w #[.int .i64 (n : Int), .slice B ops.length d] #[.int .i64 0, .slice none 0 0] 26 26
  have HW0 := Lib.hid hw0
  have HZ0 := Lib.hid hs0
  have hrd0 := shAlgebra.stab hrd T0.block
  have cP0 := BP.cell 0
  have cP1 := BP.cell 1
  simp at cP0 cP1
  rw [hw0] at cP0 cP1
  rw [HREN.out]
  clear hw0 hs0 hp hx
  go_enter Tryz.func23, Tryz.ntmps23
  go_wp2_with fail
  rw [← HW0.out]
  refine (cloneAlgebra_any _ _ _ hrd0 hcnt).mono ?_
  rintro e w1 ⟨v, css, bls, rfl, hPO, hb1⟩
  replace hPO : PO w0.heap.size w1 v ops css bls := hPO
  obtain ⟨VA, vc, rfl⟩ := own_slice hPO.2.1
  have T1 := below_next T0 hb1 rfl
  replace BP := BP.next hb1
  replace BR := BR.next hb1
  obtain ⟨w2, hw2, T2', hs2, BB⟩ := boxes1 w1 #[.int .i64 (n : Int), .slice VA ops.length vc] 26
  have HW2 : Hid (_ = w2) := hw2.symm
  have HGB : Hid (w1.heap.size ∉ obl (.slice VA ops.length vc) ++ bls.flatten) := fun hh => by have := (hPO.2.2.2 _ hh).2; omega
  have hgl : w0.heap.size ≤ w1.heap.size := hb1.size
  have T2 := below_next T1 T2' rfl
  replace BP := BP.next T2'
  replace BR := BR.next T2'
  replace hPO := hPO.next T2'
  have cP1 := BP.cell 1
  simp at cP1
  rw [hw2] at cP1
  clear hw2 hs2 cP0 hb1
  go_wp2_with fail
  clear cP1
  go_loopw [18] (fun i wr => ∃ (k : Nat), k ≤ ops.length ∧ i = .int .i64 k ∧ Blk wr w.heap.size 26 #[.int .i64 (n : Int), .slice B ops.length d] ∧ Blk wr (w.heap.size + 1) 26 #[.int .i64 0, .slice none 0 0] ∧ Blk wr w1.heap.size 26 #[.int .i64 (n : Int), .slice VA ops.length vc] ∧ PO w0.heap.size wr (.slice VA ops.length vc) (opsTo n s ops k) css bls ∧ Below w.heap.size w wr) (fun i _ => ops.length - (intOf i).toNat)
  case atStart =>
    rw [HW2.out]
    exact ⟨0, Nat.zero_le _, rfl, BP, BR, BB, hPO, T2⟩
  case round =>
    clear hPO BP BR BB T1 T2
    obtain ⟨k, hk, rfl, BP, BR, BB, hPO, hT⟩ := hrel
    by_cases hlt : k < ops.length
    · obtain ⟨wo, hwo⟩ : ∃ wo : World, wo = wr := ⟨_, rfl⟩
      subst hwo
      have hk0 : (0 : Int) ≤ (k : Int) := by omega
      have hk1 : (k : Int) < (ops.length : Int) := by omega
      obtain ⟨b, o, vs, y, rfl, -, hc, hr, -, hyk⟩ := qo.at hlt
      obtain ⟨ya, ty⟩ := y
      have hyp := HOP.out (ya, ty) (List.mem_of_getElem? hyk)
      obtain ⟨kk, rfl⟩ : ∃ kk : Nat, ya = (kk : Int) := ⟨ya.toNat, by have h1 : 0 ≤ ya := hyp.1; omega⟩
      obtain ⟨B', m', d', rfl, qa, qt⟩ := rdOp hr
      obtain rfl : ty.length = m' := qt.len
      have hkk3 : kk ≤ 3 := by have h1 : (kk : Int) ≤ 3 := hyp.2.1; omega
      have HYL : Hid (ty.length = n ^ kk) := by show _ = _; have := hyp.2.2.1; simpa using this
      have HYB : Hid (∀ v ∈ ty, 0 ≤ v ∧ v ≤ (n : Int) - 1) := hyp.2.2.2
      have HRO : Hid (renOp n s ((kk : Int), ty) = ((kk : Int), renTo n kk s ty ty ty.length)) := by show _ = _; unfold renOp; simp
      have hyl8 : ty.length ≤ 4096 := by rw [HYL.out]; exact pow_bd (by omega) (by omega)
      have cc0 : wo.cell? ⟨b, o + k * 2, none⟩ = some (.int .i64 (kk : Int)) := keepc hT (hc 0 _ rfl)
      have cc1 : wo.cell? ⟨b, o + k * 2 + 1, none⟩ = some (.slice B' ty.length d') := keepc hT (hc 1 _ rfl)
      obtain ⟨w5, hw5, T5, hs5, BQ⟩ := boxes1 wo #[.int .i64 (kk : Int), .slice B' ty.length d'] 64
      have HW5 : Hid (_ = w5) := hw5.symm
      have HYK := Lib.hid hyk
      have hP5 := hPO.next T5
      have BP5 := BP.next T5
      have BR5 := BR.next T5
      have BB5 := BB.next T5
      have hT5 := below_next hT T5 rfl
      have hgq : w1.heap.size < wo.heap.size := BB.lt
      have hdt := hT.size
      have HST : Hid (PO w0.heap.size w5 (.slice VA ops.length vc) ((opsTo n s ops k).set k ((kk : Int), renTo n kk s ty ty 0)) css bls) := by
        show PO _ _ _ _ _ _
        have e : (opsTo n s ops k).set k ((kk : Int), renTo n kk s ty ty 0) = opsTo n s ops k := set_nil_same (opsTo_get hyk)
        rw [e]
        exact hP5
      have HQW : Hid (wo.heap.size ∉ obl (.slice VA ops.length vc) ++ bls.flatten) := fun hh => by have := (hPO.2.2.2 _ hh).2; omega
      have cF0 := BQ.cell 0
      have cF1 := BQ.cell 1
      simp at cF0 cF1
      rw [hw5] at cF0 cF1
      clear hw5 hs5 hc hr hyk hyp hPO hP5
      go_wp2_with fail
      clear cF0 cF1
      go_loopw [26] (fun i wi => ∃ q : Nat, q ≤ ty.length ∧ i = .int .i64 q ∧ Blk wi w.heap.size 26 #[.int .i64 (n : Int), .slice (some ⟨b, o, none⟩) ops.length d] ∧ Blk wi (w.heap.size + 1) 26 #[.int .i64 0, .slice none 0 0] ∧ Blk wi w1.heap.size 26 #[.int .i64 (n : Int), (.slice VA ops.length vc)] ∧ Blk wi wo.heap.size 64 #[.int .i64 (kk : Int), .slice B' ty.length d'] ∧ PO w0.heap.size wi (.slice VA ops.length vc) ((opsTo n s ops k).set k ((kk : Int), renTo n kk s ty ty q)) css bls ∧ Below w.heap.size w wi) (fun i _ => ty.length - (intOf i).toNat)
      case atStart =>
        rw [HW5.out]
        exact ⟨0, Nat.zero_le _, rfl, BP5, BR5, BB5, BQ, HST.out, hT5⟩
      case round =>
        clear BP5 BR5 BB5 BQ HST hT5 BP BR BB
        obtain ⟨q, hq, rfl, BP, BR, BB, BQ, hPO, hTi⟩ := hrel
        by_cases hltq : q < ty.length
        · obtain ⟨wi, hwi⟩ : ∃ wi : World, wi = wr := ⟨_, rfl⟩
          subst hwi
          have hq0 : (0 : Int) ≤ (q : Int) := by omega
          have hq1 : (q : Int) < (ty.length : Int) := by omega
          obtain ⟨b', o', u0, u, rfl, hcu, ⟨rfl, -⟩, -, hxu⟩ := (qt.next stab_RI hTi).at hltq
          have hub := HYB.out u (List.mem_of_getElem? hxu)
          obtain ⟨u, rfl⟩ := Int.eq_ofNat_of_zero_le hub.1
          have hun : u < n := by omega
          obtain ⟨J, HJ⟩ : ∃ J, Hid (toI n kk s q = J) := ⟨_, rfl⟩
          have hJ : J < ty.length := by rw [← HJ.out, HYL.out]; exact toI_lt (by omega) HPM.out q
          obtain ⟨nm, hnm1, hnmn, hnm2⟩ := HPM.out.at hun
          have HSTEP : Hid (renTo n kk s ty ty (q + 1) = (renTo n kk s ty ty q).set J (nm : Int)) := by
            show _ = _
            rw [renTo, HJ.out, List.getD_eq_getElem?_getD, hxu]
            show (renTo n kk s ty ty q).set J (nmI s (u : Int)) = _
            have := nmI_get hnm1
            rw [this]
          have HNM := Lib.hid hnm1
          have HXU := Lib.hid hxu
          have cQ0 := BQ.cell 0
          have cQ1 := BQ.cell 1
          have cP0 := BP.cell 0
          simp at cQ0 cQ1 cP0
          clear hxu hub hnm1 hnm2
          go_wp2_with fail
          refine (argsAt_any q kk n _ (by omega) (by omega) (by omega) (by omega)).mono ?_
          rintro e w6 ⟨g, rfl, hA, hb6⟩
          obtain ⟨D, HD⟩ : ∃ D, Hid (digs n kk q = D) := ⟨_, rfl⟩
          have HDL : Hid (D.length = kk) := by show _ = _; rw [← HD.out, digs_len]
          have HDB : Hid (∀ x ∈ D, x < n) := by show ∀ x ∈ D, _; rw [← HD.out]; exact fun x hx => digs_lt (by omega) hx
          rw [HD.out] at hA
          have HJ2 : Hid (idx n (D.map (nmAt s)) = J) := by show _ = _; rw [← HD.out]; exact HJ.out
          clear cQ0 cQ1 cP0 hcu
          go_wp2_with fail
          go_loopw [39] (fun i wj => ∃ j : Nat, j ≤ kk ∧ i = .int .i64 j ∧ wj.ownsRow wi.heap.size 3 1 (.slice (some ⟨g, 0, none⟩) kk kk) kk (ints (nats (mixD s D j))) ∧ Below wi.heap.size wi wj) (fun i _ => kk - (intOf i).toNat)
          case atStart => exact ⟨0, Nat.zero_le _, rfl, hA, hb6⟩
          case round =>
            clear hA hb6
            obtain ⟨j, hj, rfl, hA, hTj⟩ := hrel
            have hTw := below_next hTi hTj rfl
            by_cases hltj : j < kk
            · have hj0 : (0 : Int) ≤ (j : Int) := by omega
              have hj1 : (j : Int) < (kk : Int) := by omega
              obtain ⟨dj, hdj⟩ : ∃ dj, D[j]? = some dj := ⟨_, List.getElem?_eq_getElem (by rw [HDL.out]; exact hltj)⟩
              have hdn := HDB.out dj (List.mem_of_getElem? hdj)
              obtain ⟨v', hv', hvn, hnm'⟩ := HPM.out.at hdn
              obtain ⟨nb, no, nv, nx, rfl, hcn, ⟨rfl, -⟩, -, hxn⟩ := (hs.next stab_RI hTw).at (k := dj) hdn
              rw [hv'] at hxn
              injection hxn with hxn
              subst hxn
              have hcell : wr.cell? ⟨g, j, none⟩ = some (.int .i64 (dj : Int)) := (hA.cellAt j (by omega)).trans (by show (List.map (Value.int .i64) (nats (mixD s D j)))[j]? = _; rw [List.getElem?_map, nats_at (mixD_get hdj)]; rfl)
              have hfz : wr.frozen? ⟨g, j, none⟩ = false := hA.frozenAt j
              have hst := (hA.stored j (.int .i64 (v' : Int))).1
              rw [ints_set, nats_set, ← hnm', mixD_next hdj, hnm'] at hst
              have hgl2 := (hA.lt g rfl).1
              have hd0 : (0 : Int) ≤ (dj : Int) := by omega
              have hd1 : (dj : Int) < (n : Int) := by omega
              have HST2 := Lib.hid hst
              clear hst hdj hv' hnm'
              go_wp2_with fail
              go_roundw
              case rel => exact ⟨j + 1, by omega, by go_num, HST2.out, hTj.setCell hgl2 _⟩
              case measure => simp [intOf]; omega
            · obtain rfl : j = kk := by omega
              have hlt' : ¬ (j : Int) < (j : Int) := by omega
              have HMB : Hid (∀ d ∈ D.map (nmAt s), d < n) := by
                intro d hd
                rw [List.mem_map] at hd
                obtain ⟨x, hx, rfl⟩ := hd
                obtain ⟨v', -, hv, e⟩ := HPM.out.at (HDB.out x hx)
                omega
              rw [mixD_all (by rw [HDL.out]; exact Nat.le_refl _)] at hA
              have RA : RdL RI wr (some ⟨g, 0, none⟩) j (nats (D.map (nmAt s))) := rd_of_own (R := RI) hA (nats_R (b := n) (fun d hd => Nat.le_of_lt (HMB.out d hd)) (by omega))
              have hPj := hPO.next hTj
              have BPj := BP.next hTj
              have BRj := BR.next hTj
              have BBj := BB.next hTj
              have BQj := BQ.next hTj
              obtain ⟨gO, cap, tb, dt, hv, -, cT, hlo, hhi, hfz, hcl, htm, hset⟩ := hPj.tab (k := k) (a := (j : Int)) (t := renTo n j s ty ty q) (by rw [List.getElem?_set_self (by rw [opsTo_len]; exact hlt)]) (by intro e0; have := congrArg List.length e0; rw [renTo_len] at this; simp at this; rw [this] at hltq; simp at hltq)
              injection hv with hv1 hv2 hv3
              subst hv1
              rw [renTo_len] at cT
              have fJ := hfz J
              obtain ⟨x0, hx0⟩ : ∃ x0, (renTo n j s ty ty q)[J]? = some x0 := ⟨_, List.getElem?_eq_getElem (by rw [renTo_len]; exact hJ)⟩
              have cJ := hcl J x0 hx0
              obtain ⟨nb, no, nv, nx, rfl, hcn, ⟨rfl, -⟩, -, hxn⟩ := (hs.next stab_RI hTw).at (k := u) hun
              rw [HNM.out] at hxn
              injection hxn with hxn
              subst hxn
              have n5 : nb ≠ tb := by
                obtain ⟨v8, x8, hc8, -⟩ := hs.at' (k := u) hun
                have := cell_lt hc8
                have := HZ0.out
                have h9 : nb < w.heap.size := by assumption
                omega
              have n6 : b' ≠ tb := by
                obtain ⟨v8, x8, hc8, -⟩ := qt.at' hltq
                have h9 : b' < w.heap.size := cell_lt hc8
                have := HZ0.out
                omega
              have n7 : gO ≠ tb := fun e => (List.nodup_append.1 hPj.2.2.1).2.2 gO (by simp [obl, Value.ownBlock]) tb htm e
              obtain ⟨uv, ux, hcu, ⟨rfl, -⟩, -, hux⟩ := (qt.next stab_RI hTw).at' hltq
              rw [HXU.out] at hux
              injection hux with hux
              subst hux
              have HS2 := hset J (nm : Int) ⟨by omega, by omega⟩
              rw [List.set_set] at HS2
              have HS3 : Hid (PO w0.heap.size (wr.setCell ⟨tb, J, none⟩ (.int .i64 (nm : Int))) (.slice (some ⟨gO, 0, none⟩) ops.length vc) ((opsTo n s ops k).set k ((j : Int), renTo n j s ty ty (q + 1))) css bls) := by show PO _ _ _ _ _ _; rw [HSTEP.out]; exact HS2
              have hz0 := HZ0.out
              have n1 : w.heap.size ≠ tb := by omega
              have n2 : w.heap.size + 1 ≠ tb := by omega
              have n3 : w1.heap.size ≠ tb := fun e => HGB.out (by rw [e]; exact List.mem_append_right _ htm)
              have n4 : wo.heap.size ≠ tb := fun e => HQW.out (by rw [e]; exact List.mem_append_right _ htm)
              have HBL := Lib.hid (And.intro (BPj.far (p := ⟨tb, J, none⟩) n1 (.int .i64 (nm : Int))) (And.intro (BRj.far (p := ⟨tb, J, none⟩) n2 (.int .i64 (nm : Int))) (And.intro (BBj.far (p := ⟨tb, J, none⟩) n3 (.int .i64 (nm : Int))) (And.intro (BQj.far (p := ⟨tb, J, none⟩) n4 (.int .i64 (nm : Int))) (hTw.setCell (p := ⟨tb, J, none⟩) (show w.heap.size ≤ tb by omega) (.int .i64 (nm : Int)))))))
              have cB1 := BBj.cell 1
              have cP0 := BPj.cell 0
              simp at cB1 cP0
              have hJ0 : (0 : Int) ≤ (J : Int) := by omega
              have hJ1 : (J : Int) < (ty.length : Int) := by omega
              have hu0 : (0 : Int) ≤ (u : Int) := by omega
              have hu1 : (u : Int) < (n : Int) := by omega
              clear hfz hcl hset HS2 hx0 hPj BPj BRj BBj BQj hz0 hv2 hv3 hA htm
              go_upto_region 14 with fail
              have Tk : Below wr.heap.size wr wr := Below.refl _ _
              have HKD : (wr.setCell ⟨tb, J, none⟩ (.int .i64 (nm : Int))).drew.cell? ⟨w.heap.size, 0, none⟩ = some (.int .i64 (n : Int)) ∧ (wr.setCell ⟨tb, J, none⟩ (.int .i64 (nm : Int))).drew.cell? ⟨w1.heap.size, 1, none⟩ = some (.slice (some ⟨gO, 0, none⟩) ops.length vc) ∧ (wr.setCell ⟨tb, J, none⟩ (.int .i64 (nm : Int))).drew.cell? ⟨gO, k * 2 + 1, none⟩ = some (.slice (some ⟨tb, 0, none⟩) ty.length dt) ∧ (wr.setCell ⟨tb, J, none⟩ (.int .i64 (nm : Int))).drew.cell? ⟨nb, no + u, none⟩ = some (.int .i64 (nm : Int)) ∧ (wr.setCell ⟨tb, J, none⟩ (.int .i64 (nm : Int))).drew.cell? ⟨b', o' + q, none⟩ = some (.int .i64 (u : Int)) := ⟨cell_farD n1 cP0, cell_farD n3 cB1, cell_farD n7 cT, cell_farD n5 hcn, cell_farD n6 hcu⟩
              go_region_held3 (fun w' => w'.cell? ⟨w.heap.size, 0, none⟩ = some (.int .i64 (n : Int)) ∧ w'.cell? ⟨w1.heap.size, 1, none⟩ = some (.slice (some ⟨gO, 0, none⟩) ops.length vc) ∧ w'.cell? ⟨gO, k * 2 + 1, none⟩ = some (.slice (some ⟨tb, 0, none⟩) ty.length dt) ∧ w'.cell? ⟨nb, no + u, none⟩ = some (.int .i64 (nm : Int)) ∧ w'.cell? ⟨b', o' + q, none⟩ = some (.int .i64 (u : Int))) (first | go_keep | exact ⟨keepc Tk cP0, keepc Tk cB1, keepc Tk cT, keepc Tk hcn, keepc Tk hcu⟩ | exact HKD | exact ⟨cell_farD n1 cP0, cell_farD n3 cB1, cell_farD n7 cT, cell_farD n5 hcn, cell_farD n6 hcu⟩ | exact ⟨cell_far n1 cP0, cell_far n3 cB1, cell_far n7 cT, cell_far n5 hcn, cell_far n6 hcu⟩) (first
                | (go_at_call 49; refine (indexOf_any _ j j n (D.map (nmAt s)) _ (by first | exact RA | exact RA.drew stab_RI) (by omega) (by omega) HMB.out).mono ?_; rintro e w' ⟨rfl, rfl⟩; rw [HJ2.out]))
              all_goals
                go_wp2_with fail
                go_roundw
                case rel => exact ⟨q + 1, by omega, by go_num, HBL.out.1.drew, HBL.out.2.1.drew, HBL.out.2.2.1.drew, HBL.out.2.2.2.1.drew, HS3.out.next (Below.drew (Below.refl _ _)), Below.drew HBL.out.2.2.2.2⟩
                case measure => simp [intOf]; omega
        · have hqe : q = ty.length := by omega
          have hlt' : ¬ (q : Int) < (ty.length : Int) := by omega
          have HPN : Hid (PO w0.heap.size wr (.slice VA ops.length vc) (opsTo n s ops (k + 1)) css bls) := by
            show PO _ _ _ _ _ _
            rw [← opsTo_next HYK.out, HRO.out, ← hqe]
            exact hPO
          clear hqe
          go_wp2_with fail
          go_roundw
          case rel => exact ⟨k + 1, by omega, by go_num, BP, BR, BB, HPN.out, hTi⟩
          case measure => simp [intOf]; omega
    · have hlt' : ¬ (k : Int) < (ops.length : Int) := by omega
      rw [opsTo_all (by omega)] at hPO
      have hlow : w.heap.size ≤ w0.heap.size := by have := HZ0.out; omega
      have hPF := ((hPO.far (p := ⟨w.heap.size + 1, 0, none⟩) (by have := HZ0.out; show w.heap.size + 1 < w0.heap.size; omega) (.int .i64 (n : Int))).far (p := ⟨w.heap.size + 1, 1, none⟩) (by have := HZ0.out; show w.heap.size + 1 < w0.heap.size; omega) (.slice VA ops.length vc)).mono hlow
      have hTF := (hT.setCell (p := ⟨w.heap.size + 1, 0, none⟩) (by show _ ≤ _; simp) (.int .i64 (n : Int))).setCell (p := ⟨w.heap.size + 1, 1, none⟩) (by show _ ≤ _; simp) (.slice VA ops.length vc)
      have cO0 := BB.cell 0
      have cO1 := BB.cell 1
      have cR0 := BR.cell 0
      have cR1 := BR.cell 1
      have fR0 := BR.frozen 0
      have fR1 := BR.frozen 1
      have BRR : Blk ((wr.setCell ⟨w.heap.size + 1, 0, none⟩ (.int .i64 (n : Int))).setCell ⟨w.heap.size + 1, 1, none⟩ (.slice VA ops.length vc)) (w.heap.size + 1) 26 #[.int .i64 (n : Int), .slice VA ops.length vc] := by simpa using ((BR.set_ 0 (.int .i64 (n : Int))).set_ 1 (.slice VA ops.length vc))
      have HPF := Lib.hid hPF
      have n8 : ¬ w.heap.size + 1 = w1.heap.size := by have := HZ0.out; omega
      have n9 : ¬ w1.heap.size = w.heap.size + 1 := fun e => n8 e.symm
      have cO1' : (wr.setCell ⟨w.heap.size + 1, 0, none⟩ (.int .i64 (n : Int))).cell? ⟨w1.heap.size, 1, none⟩ = some (.slice VA ops.length vc) := cell_far (p := ⟨w.heap.size + 1, 0, none⟩) (a := ⟨w1.heap.size, 1, none⟩) n9 (by simpa using cO1)
      simp at cO0 cO1 cR0 cR1
      clear hPF hPO
      go_wp2_with fail
      (try simp only [Exit.inBlock, Exit.then])
      refine bodyPost_ret (v := .agg #[.int .i64 (n : Int), .slice VA ops.length vc]) (results_cell_row rfl _ _ (w.heap.size + 1) 26 #[.int .i64 (n : Int), .slice VA ops.length vc] (0, 0) _ (by simp) BRR Tryz.underlying26 rfl (by kernel_rfl)) rfl ?_
      exact ⟨_, css, bls, rfl, HPF.out, hTF⟩
theorem run_mk (L : Nat) (b : L ≤ 1048576) : ∃ M : Array Value, M.toList = ints (List.replicate L 0) ∧ ∀ w : World, (Instr.makeSlice 27 (.int .i64 (L : Int)) (.int .i64 (L : Int))).run Tryz.prog w = .ok (.slice (some ⟨w.heap.size, 0, none⟩) L L) (w.alloc (.cells M 3)) := by
  obtain ⟨i0, hi, hz0, hz1, hz2⟩ := info_parts info_int
  refine ⟨madeCells (Value.int .i64 0).cells (L * 1), ?_, fun w => ?_⟩
  · rw [Nat.mul_one, ints_rep]
    exact toList_madeCells_one (.int .i64 0) L
  · have hr := run_make (P := Tryz.prog) w 27 3 i0 (.int .i64 0) Tryz.underlying27 hi hz0 .i64 .i64 L L (by omega) (Int.le_refl _) (by rw [hz2]; omega) (by omega)
    simp only [Int.toNat_natCast] at hr
    rw [hz1] at hr
    exact hr
theorem mk_own {w : World} {M : Array Value} {L : Nat} (hM : M.toList = ints (List.replicate L 0)) (hL : L ≤ 1048576) {lo : Nat} (hlo : lo ≤ w.heap.size) : (w.alloc (.cells M 3)).ownsRow lo 3 1 (.slice (some ⟨w.heap.size, 0, none⟩) L L) L (ints (List.replicate L 0)) := by
  have hs : M.size = L * 1 := by rw [← Array.length_toList, hM]; simp [ints]
  have := World.ownsRow_lit (e := 3) (size := 1) w M L hlo (by unfold maxLen; omega) hs
  rw [hM] at this
  exact this
theorem l2Rename8_any (cs : List Value) (x : AlgebraM) (N : Option Addr) (n cN : Nat) (s : List Int) (w : World) (h : shAlgebra.rd w cs x) (hs : RdL RI w N n s) (hx : AlgP x) (hp : PermL x.1.toNat s) :
    Calls Tryz.prog 26 #[.agg cs.toArray, .slice N n cN] w (AlgE w (ren x s)) := by
  obtain ⟨a, ops⟩ := x
  obtain ⟨z, rfl⟩ : ∃ z : Nat, a = (z : Int) := ⟨a.toNat, by have h1 : 1 ≤ a := hx.1; omega⟩
  have hz1 : 1 ≤ z := by have h1 : (1 : Int) ≤ (z : Int) := hx.1; omega
  have hz5 : z ≤ 8 := by have h1 : (z : Int) ≤ 8 := hx.2.1; omega
  have hm4 : ops.length ≤ 4 := hx.2.2.1
  have HOP : Hid (∀ o ∈ ops, OpP z o) := fun o ho => by have := hx.2.2.2 o ho; simpa using this
  have HPM : Hid (PermL z s) := by show PermL z s; simpa using hp
  have hnz : n = z := by rw [← hs.len]; exact HPM.out.1
  subst hnz
  have HREN : Hid (ren ((n : Int), ops) s = ((n : Int), ops.map (renOp n s))) := by show _ = _; unfold ren; simp
  obtain ⟨B, m, d, rfl, qs, qo⟩ := rdAlgebra h
  obtain rfl : ops.length = m := qo.len
  obtain ⟨w0, hw0, T0, hs0, BP, BR, BO⟩ := boxes3 w #[.int .i64 (n : Int), .slice B ops.length d] #[.int .i64 0, .slice none 0 0] #[.int .i64 (n : Int), .slice none 0 0] 26 26
  have HW0 : Hid (_ = w0) := hw0.symm
  have HZ0 := Lib.hid hs0
  have hPO0 : PO w0.heap.size w0 (.slice none 0 0) ((ops.take 0).map (renOp n s)) [] [] := PO.nil _ _
  have cP0 := BP.cell 0
  have cP1 := BP.cell 1
  simp at cP0 cP1
  rw [hw0] at cP0 cP1
  have cP0' := ((Blk.new w 26 #[.int .i64 (n : Int), .slice B ops.length d]).alloc (.cells #[.int .i64 0, .slice none 0 0] 26)).cell 0
  simp at cP0'
  rw [HREN.out]
  clear hw0 hs0 hp hx h
  go_enter Tryz.func26, Tryz.ntmps26
  go_wp2_with fail
  clear cP0 cP1 cP0'
  go_loopw [6] (fun i wr => ∃ (k : Nat) (v : Value) (css : List (List Value)) (bls : List (List Nat)), k ≤ ops.length ∧ i = .int .i64 k ∧ Blk wr w.heap.size 26 #[.int .i64 (n : Int), .slice B ops.length d] ∧ Blk wr (w.heap.size + 1) 26 #[.int .i64 0, .slice none 0 0] ∧ Blk wr (w.heap.size + 1 + 1) 26 #[.int .i64 (n : Int), v] ∧ PO w0.heap.size wr v ((ops.take k).map (renOp n s)) css bls ∧ Below w.heap.size w wr) (fun i _ => ops.length - (intOf i).toNat)
  case atStart =>
    rw [HW0.out]
    exact ⟨0, _, _, _, Nat.zero_le _, rfl, BP, BR, BO, hPO0, T0⟩
  case round =>
    clear hPO0 BP BR BO T0
    obtain ⟨k, v, css, bls, hk, rfl, BP, BR, BO, hPO, hT⟩ := hrel
    have cP1 := BP.cell 1
    simp at cP1
    by_cases hlt : k < ops.length
    · obtain ⟨wo, hwo⟩ : ∃ wo : World, wo = wr := ⟨_, rfl⟩
      subst hwo
      have hk0 : (0 : Int) ≤ (k : Int) := by omega
      have hk1 : (k : Int) < (ops.length : Int) := by omega
      obtain ⟨b, o, vs, y, rfl, -, hc, hr, -, hyk⟩ := qo.at hlt
      obtain ⟨ya, ty⟩ := y
      have hyp := HOP.out (ya, ty) (List.mem_of_getElem? hyk)
      obtain ⟨kk, rfl⟩ : ∃ kk : Nat, ya = (kk : Int) := ⟨ya.toNat, by have h1 : 0 ≤ ya := hyp.1; omega⟩
      obtain ⟨B', m', d', rfl, qa, qt⟩ := rdOp hr
      obtain rfl : ty.length = m' := qt.len
      have hkk3 : kk ≤ 3 := by have h1 : (kk : Int) ≤ 3 := hyp.2.1; omega
      have HYL : Hid (ty.length = n ^ kk) := by show _ = _; have := hyp.2.2.1; simpa using this
      have HYB : Hid (∀ v ∈ ty, 0 ≤ v ∧ v ≤ (n : Int) - 1) := hyp.2.2.2
      obtain ⟨L, hL⟩ : ∃ L, ty.length = L := ⟨_, rfl⟩
      have HLT := Lib.hid hL
      have hyl8 : L ≤ 4096 := by rw [← hL, HYL.out]; exact pow_bd (by omega) (by omega)
      have HLP : Hid (L = n ^ kk) := by show _ = _; rw [← hL]; exact HYL.out
      have HRO : Hid (renOp n s ((kk : Int), ty) = ((kk : Int), renTo n kk s ty (List.replicate L 0) L)) := by
        show _ = _
        unfold renOp
        simp only [Int.toNat_natCast]
        rw [HYL.out, HLP.out, renTo_any (T := ty) (T' := List.replicate (n ^ kk) 0) (by omega) HPM.out HYL.out (by simp)]
      rw [hL] at hc qt
      have cc0w : w.cell? ⟨b, o + k * 2, none⟩ = some (.int .i64 (kk : Int)) := hc 0 _ rfl
      have cc1w : w.cell? ⟨b, o + k * 2 + 1, none⟩ = some (.slice B' L d') := hc 1 _ rfl
      have cc0 := keepc hT cc0w
      have cc1 := keepc hT cc1w
      have HYK := Lib.hid hyk
      clear hc hr hyk hyp hL
      go_upto_region 5 with fail
      go_cut [7] (fun v7 wx => ∃ g gq, v7 = .pointer (some ⟨gq, 0, none⟩) ∧ Blk wx gq 64 #[.int .i64 (kk : Int), .slice (some ⟨g, 0, none⟩) L L] ∧ wx.ownsRow wo.heap.size 3 1 (.slice (some ⟨g, 0, none⟩) L L) L (ints (List.replicate L 0)) ∧ wo.heap.size ≤ gq ∧ Below wo.heap.size wo wx)
      case first =>
        obtain ⟨M, hM, HMK⟩ := run_mk L (by omega)
        have HM := Lib.hid hM
        clear hM
        have cP1a := keepc (below_box wo (.cells #[.int .i64 0, .slice none 0 0] 64)) (cP1)
        have cc0a := keepc (below_box wo (.cells #[.int .i64 0, .slice none 0 0] 64)) (cc0)
        have cc1a := keepc (below_box wo (.cells #[.int .i64 0, .slice none 0 0] 64)) (cc1)
        have cP1b := keepc (below_box wo (.cells M 3)) (cP1)
        have cc0b := keepc (below_box wo (.cells M 3)) (cc0)
        have cc1b := keepc (below_box wo (.cells M 3)) (cc1)
        have cP1c := keepc (below_box (wo.alloc (.cells #[.int .i64 0, .slice none 0 0] 64)) (.cells M 3)) (keepc (below_box wo (.cells #[.int .i64 0, .slice none 0 0] 64)) (cP1))
        have cc0c := keepc (below_box (wo.alloc (.cells #[.int .i64 0, .slice none 0 0] 64)) (.cells M 3)) (keepc (below_box wo (.cells #[.int .i64 0, .slice none 0 0] 64)) (cc0))
        have cc1c := keepc (below_box (wo.alloc (.cells #[.int .i64 0, .slice none 0 0] 64)) (.cells M 3)) (keepc (below_box wo (.cells #[.int .i64 0, .slice none 0 0] 64)) (cc1))
        have cP1d := keepc (below_box (wo.alloc (.cells M 3)) (.cells #[.int .i64 0, .slice none 0 0] 64)) (keepc (below_box wo (.cells M 3)) (cP1))
        have cc0d := keepc (below_box (wo.alloc (.cells M 3)) (.cells #[.int .i64 0, .slice none 0 0] 64)) (keepc (below_box wo (.cells M 3)) (cc0))
        have cc1d := keepc (below_box (wo.alloc (.cells M 3)) (.cells #[.int .i64 0, .slice none 0 0] 64)) (keepc (below_box wo (.cells M 3)) (cc1))
        go_region
        all_goals
          go_wp2_with fail
          go_meet
        · refine ⟨wo.heap.size, wo.heap.size + 1, rfl, ?_, ?_, by omega, Below.drew (below_box2 _ _ _)⟩
          · have := Blk.new (wo.alloc (.cells M 3)) 64 #[.int .i64 (kk : Int), .slice (some ⟨wo.heap.size, 0, none⟩) L L]
            rw [World.size_alloc] at this
            exact this.drew
          · exact own_same ((mk_own HM.out (by omega) (Nat.le_refl _)).alloc _) fun _ _ => rfl
        · refine ⟨wo.heap.size + 1, wo.heap.size, rfl, ?_, ?_, Nat.le_refl _, Below.drew (below_box2 _ _ _)⟩
          · exact ((Blk.new wo 64 #[.int .i64 (kk : Int), .slice (some ⟨wo.heap.size + 1, 0, none⟩) L L]).alloc _).drew
          · have := mk_own (w := wo.alloc (.cells #[.int .i64 (kk : Int), .slice (some ⟨wo.heap.size + 1, 0, none⟩) L L] 64)) HM.out (by omega) (lo := wo.heap.size) (by simp)
            rw [World.size_alloc] at this
            exact own_same this fun _ _ => rfl
      case rest =>
        obtain ⟨g, gq, rfl, BQ, hown, hgq, hTc⟩ := hcut
        obtain ⟨w5, HWC⟩ : ∃ wq : World, wq = wc := ⟨_, rfl⟩
        subst HWC
        have hdt := hT.size
        have hbw : b < w.heap.size := cell_lt cc0w
        clear cc0 cc1 cP1
        have cQ1 := BQ.cell 1
        simp at cQ1
        go_wp2_with fail
        clear cQ1
        go_loopw [8] (fun i wi => ∃ q : Nat, q ≤ L ∧ i = .int .i64 q ∧ Blk wi gq 64 #[.int .i64 (kk : Int), .slice (some ⟨g, 0, none⟩) L L] ∧ wi.ownsRow wo.heap.size 3 1 (.slice (some ⟨g, 0, none⟩) L L) L (ints (renTo n kk s ty (List.replicate L 0) q)) ∧ Below wo.heap.size wo wi) (fun i _ => L - (intOf i).toNat)
        case atStart => exact ⟨0, Nat.zero_le _, rfl, BQ, hown, hTc⟩
        case round =>
          clear BQ hown hTc
          obtain ⟨q, hq, rfl, BQ, hown, hTi⟩ := hrel
          have hTwi := below_next hT hTi rfl
          have cQ0 := BQ.cell 0
          have cQ1 := BQ.cell 1
          simp at cQ0 cQ1
          by_cases hltq : q < L
          · obtain ⟨wi, hwi⟩ : ∃ wi : World, wi = wr := ⟨_, rfl⟩
            subst hwi
            have hq0 : (0 : Int) ≤ (q : Int) := by omega
            have hq1 : (q : Int) < (L : Int) := by omega
            obtain ⟨b', o', u0, u, rfl, hcu, ⟨rfl, -⟩, -, hxu⟩ := qt.at hltq
            have hub := HYB.out u (List.mem_of_getElem? hxu)
            obtain ⟨u, rfl⟩ := Int.eq_ofNat_of_zero_le hub.1
            have hun : u < n := by omega
            obtain ⟨J, HJ⟩ : ∃ J, Hid (toI n kk s q = J) := ⟨_, rfl⟩
            have hJ : J < L := by rw [← HJ.out, HLP.out]; exact toI_lt (by omega) HPM.out q
            obtain ⟨nm, hnm1, hnmn, hnm2⟩ := HPM.out.at hun
            have HSTEP : Hid (renTo n kk s ty (List.replicate L 0) (q + 1) = (renTo n kk s ty (List.replicate L 0) q).set J (nm : Int)) := by
              show _ = _
              rw [renTo, HJ.out, List.getD_eq_getElem?_getD, hxu]
              show (renTo n kk s ty (List.replicate L 0) q).set J (nmI s (u : Int)) = _
              have := nmI_get hnm1
              rw [this]
            obtain ⟨nb, no, nv, nx, rfl, hcn, ⟨rfl, -⟩, -, hxn⟩ := hs.at (k := u) hun
            rw [hnm1] at hxn
            injection hxn with hxn
            subst hxn
            have hbw2 : b' < w.heap.size := cell_lt hcu
            have hbw3 : nb < w.heap.size := cell_lt hcn
            have BPi := BP.next hTi
            have cP0 := BPi.cell 0
            simp at cP0
            clear hxu hub hnm1 hnm2
            go_wp2_with fail
            refine (l2Args_any q kk n _ (by omega) (by omega) (by omega) (by omega)).mono ?_
            rintro e w6 ⟨ga, rfl, hA, hb6⟩
            obtain ⟨D, HD⟩ : ∃ D, Hid (digs n kk q = D) := ⟨_, rfl⟩
            have HDL : Hid (D.length = kk) := by show _ = _; rw [← HD.out, digs_len]
            have HDB : Hid (∀ x ∈ D, x < n) := by show ∀ x ∈ D, _; rw [← HD.out]; exact fun x hx => digs_lt (by omega) hx
            rw [HD.out] at hA
            have HJ2 : Hid (idx n (D.map (nmAt s)) = J) := by show _ = _; rw [← HD.out]; exact HJ.out
            have HMB : Hid (∀ d ∈ D.map (nmAt s), d < n) := by
              intro d hd
              rw [List.mem_map] at hd
              obtain ⟨x, hx, rfl⟩ := hd
              obtain ⟨v', -, hv, e⟩ := HPM.out.at (HDB.out x hx)
              omega
            have hT6 := below_next hTwi hb6 rfl
            have BP6 := BPi.next hb6
            have RA : RdL RI w6 (some ⟨ga, 0, none⟩) kk (nats D) := rd_of_own (R := RI) hA (nats_R (b := n) (fun d hd => Nat.le_of_lt (HDB.out d hd)) (by omega))
            clear cQ0 cQ1 cP0 hA
            go_wp2_with fail
            go_loopw [10, 11] (fun v i wj => ∃ j : Nat, j ≤ kk ∧ i = .int .i64 j ∧ v = .int .i64 (idx n ((D.map (nmAt s)).take j) : Nat) ∧ Below w6.heap.size w6 wj) (fun _ i _ => kk - (intOf i).toNat)
            case atStart => exact ⟨0, Nat.zero_le _, rfl, rfl, Below.refl _ _⟩
            case round =>
              obtain ⟨j, hj, rfl, rfl, hTj⟩ := hrel
              obtain ⟨P, HP⟩ : ∃ P, Hid (idx n ((D.map (nmAt s)).take j) = P) := ⟨_, rfl⟩
              have hP : P ≤ 4096 := by
                rw [← HP.out]
                have := idx_small (n := n) (by omega) (l := (D.map (nmAt s)).take j) (by rw [List.length_take, List.length_map, HDL.out]; omega) fun d hd => HMB.out d (List.mem_of_mem_take hd)
                omega
              rw [HP.out]
              have hTjw := below_next hT6 hTj rfl
              by_cases hltj : j < kk
              · have hj0 : (0 : Int) ≤ (j : Int) := by omega
                have hj1 : (j : Int) < (kk : Int) := by omega
                obtain ⟨dj, hdj⟩ : ∃ dj, D[j]? = some dj := ⟨_, List.getElem?_eq_getElem (by rw [HDL.out]; exact hltj)⟩
                have hdn := HDB.out dj (List.mem_of_getElem? hdj)
                obtain ⟨v', hv', hvn, hnm'⟩ := HPM.out.at hdn
                obtain ⟨nv, nx, hcn', ⟨rfl, -⟩, -, hxn⟩ := (hs.next stab_RI hTjw).at' (k := dj) hdn
                rw [hv'] at hxn
                injection hxn with hxn
                subst hxn
                obtain ⟨av, ax, hca, ⟨rfl, -⟩, -, hxa⟩ := (RA.next stab_RI hTj).at' hltj
                rw [Nat.zero_add] at hca
                rw [nats_at hdj] at hxa
                injection hxa with hxa
                subst hxa
                have cP0 := (BP6.next hTj).cell 0
                simp at cP0
                have HT : Hid (idx n ((D.map (nmAt s)).take (j + 1)) = P * n + v') := by
                  show _ = _
                  rw [idx_take (d := v') (by rw [List.getElem?_map, hdj]; simp [hnm']), HP.out]
                have hM : P * n ≤ 4096 * 8 := Nat.mul_le_mul hP (by omega)
                have hm0 : (0 : Int) ≤ (P : Int) * (n : Int) := by rw [← Int.natCast_mul]; omega
                have hm1 : (P : Int) * (n : Int) ≤ 32768 := by rw [← Int.natCast_mul]; omega
                have HE : Hid ((P : Int) * (n : Int) = ((P * n : Nat) : Int)) := (Int.natCast_mul _ _).symm
                have hd0 : (0 : Int) ≤ (dj : Int) := by omega
                have hd1 : (dj : Int) < (n : Int) := by omega
                have HVN := Lib.hid hvn
                have hvm : (v' : Int) ≤ 8 := by omega
                clear hM hdj hv' hnm' hvn
                go_upto_region 14 with fail
                go_quiet (fail)
                go_wp2_with fail
                go_roundw
                case rel => exact ⟨j + 1, by omega, by go_num, by rw [HT.out, HE.out]; simp, by first | exact hTj | exact below_drewN hTj _⟩
                case measure => simp [intOf]; omega
              · have hlt' : ¬ (j : Int) < (kk : Int) := by omega
                have hPJ : P = J := by rw [← HP.out, ← HJ2.out, List.take_of_length_le (by rw [List.length_map, HDL.out]; omega)]
                subst hPJ
                have hTir := below_next hb6 hTj rfl
                have hownr := own_next hown hTir
                have BQr := BQ.next hTir
                have BPr := BP6.next hTj
                have cQ1 := BQr.cell 1
                have cP1 := BPr.cell 1
                simp at cQ1 cP1
                have cc1 := keepc hTjw cc1w
                have hcu2 := keepc hTjw hcu
                have hcn2 := keepc hTjw hcn
                obtain ⟨x0, hx0⟩ : ∃ x0, (ints (renTo n kk s ty (List.replicate L 0) q))[P]? = some x0 := ⟨_, List.getElem?_eq_getElem (by rw [ints_len, renTo_len]; simp; exact hJ)⟩
                have cJ : wr.cell? ⟨g, P, none⟩ = some x0 := (hownr.cellAt P (by omega)).trans hx0
                have fJ := hownr.frozenAt P
                have hgo := (hownr.lt g rfl).1
                have hst := (hownr.stored P (.int .i64 (nm : Int))).1
                rw [ints_set, ← HSTEP.out] at hst
                have hwl := BP.lt
                have n1 : w.heap.size ≠ g := by omega
                have n2 : gq ≠ g := fun e => own_off hownr BQr (by decide) (by rw [e]; rfl)
                have n3 : b ≠ g := by omega
                have n4 : b' ≠ g := by omega
                have n5 : nb ≠ g := by omega
                have HFIN := Lib.hid (And.intro (BQr.far (p := ⟨g, P, none⟩) n2 (.int .i64 (nm : Int))) (And.intro hst ((below_next hTi hTir rfl).setCell (p := ⟨g, P, none⟩) hgo (.int .i64 (nm : Int)))))
                have hP0 : (0 : Int) ≤ (P : Int) := by omega
                have hP1 : (P : Int) < (L : Int) := by omega
                have hu0 : (0 : Int) ≤ (u : Int) := by omega
                have hu1 : (u : Int) < (n : Int) := by omega
                clear hst hownr hx0 hown hcu hcn cc1w cc0w BQr BPr
                go_upto_region 15 with fail
                have Tk : Below wr.heap.size wr wr := Below.refl _ _
                have HKD : (wr.setCell ⟨g, P, none⟩ (.int .i64 (nm : Int))).drew.cell? ⟨gq, 1, none⟩ = some (.slice (some ⟨g, 0, none⟩) L L) ∧ (wr.setCell ⟨g, P, none⟩ (.int .i64 (nm : Int))).drew.cell? ⟨w.heap.size, 1, none⟩ = some (.slice (some ⟨b, o, none⟩) ops.length d) ∧ (wr.setCell ⟨g, P, none⟩ (.int .i64 (nm : Int))).drew.cell? ⟨b, o + k * 2 + 1, none⟩ = some (.slice (some ⟨b', o', none⟩) L d') ∧ (wr.setCell ⟨g, P, none⟩ (.int .i64 (nm : Int))).drew.cell? ⟨b', o' + q, none⟩ = some (.int .i64 (u : Int)) ∧ (wr.setCell ⟨g, P, none⟩ (.int .i64 (nm : Int))).drew.cell? ⟨nb, no + u, none⟩ = some (.int .i64 (nm : Int)) := ⟨cell_farD n2 cQ1, cell_farD n1 cP1, cell_farD n3 cc1, cell_farD n4 hcu2, cell_farD n5 hcn2⟩
                go_region_held3 (fun w' => w'.cell? ⟨gq, 1, none⟩ = some (.slice (some ⟨g, 0, none⟩) L L) ∧ w'.cell? ⟨w.heap.size, 1, none⟩ = some (.slice (some ⟨b, o, none⟩) ops.length d) ∧ w'.cell? ⟨b, o + k * 2 + 1, none⟩ = some (.slice (some ⟨b', o', none⟩) L d') ∧ w'.cell? ⟨b', o' + q, none⟩ = some (.int .i64 (u : Int)) ∧ w'.cell? ⟨nb, no + u, none⟩ = some (.int .i64 (nm : Int))) (first | go_keep | exact ⟨keepc Tk cQ1, keepc Tk cP1, keepc Tk cc1, keepc Tk hcu2, keepc Tk hcn2⟩ | exact HKD) (fail)
                all_goals
                  go_wp2_with fail
                  go_roundw
                  case rel => exact ⟨q + 1, by omega, by go_num, HFIN.out.1.drew, own_same HFIN.out.2.1 (fun _ _ => rfl), Below.drew HFIN.out.2.2⟩
                  case measure => simp [intOf]; omega
          · have hqe : q = L := by omega
            subst hqe
            have hlt' : ¬ (q : Int) < (q : Int) := by omega
            obtain ⟨LL, HLL⟩ : ∃ LL, Hid ((ops.take k).map (renOp n s) = LL) := ⟨_, rfl⟩
            have HLK : Hid (LL.length = k) := by show _ = _; rw [← HLL.out, List.length_map, List.length_take]; omega
            rw [HLL.out] at hPO
            have HNX : Hid ((ops.take (k + 1)).map (renOp n s) = LL ++ [((kk : Int), renTo n kk s ty (List.replicate q 0) q)]) := by
              show _ = _
              rw [take_snoc HYK.out, List.map_append, HLL.out, ← HRO.out]
              rfl
            obtain ⟨VA, vc, rfl⟩ := own_slice hPO.2.1
            have hTl : (renTo n kk s ty (List.replicate q 0) q).length = q := by rw [renTo_len, List.length_replicate]
            have hTb : ∀ y ∈ renTo n kk s ty (List.replicate q 0) q, InR y := fun y hy => by
              have := renTo_in HPM.out (fun v hv => by rw [List.mem_replicate] at hv; omega) HYB.out q (by rw [HLT.out]; exact Nat.le_refl _) y hy
              exact ⟨by omega, by omega⟩
            have hO0 : wr.ownsRow 0 3 1 (.slice (some ⟨g, 0, none⟩) q q) (renTo n kk s ty (List.replicate q 0) q).length (ints (renTo n kk s ty (List.replicate q 0) q)) := by rw [hTl]; exact own_mono hown (Nat.zero_le _)
            have how : shOp.own wr [.int .i64 (kk : Int), .slice (some ⟨g, 0, none⟩) q q] ((kk : Int), renTo n kk s ty (List.replicate q 0) q) [g] := ⟨[.int .i64 (kk : Int)], [.slice (some ⟨g, 0, none⟩) q q], [], [g], rfl, rfl, ⟨_, rfl, ⟨rfl, by omega, by omega⟩, rfl⟩, ⟨_, rfl, hO0, hTb, rfl⟩⟩
            have hgl := hown.lt g rfl
            have hwz0 : w0.heap.size ≤ wo.heap.size := by have h1 := BO.lt; have h2 := HZ0.out; omega
            obtain ⟨hvs, HPU⟩ := hPO.push hTi hwz0 how ⟨by simp, fun b hb => by simp at hb; subst hb; exact hgl⟩
            have BOr := BO.next hTi
            have BPr := BP.next hTi
            have BRr := BR.next hTi
            have cO1 := BOr.cell 1
            simp at cO1
            have hsz := hTi.size
            clear how hO0 hTb hTl hPO
            go_wp2_with (at_builtin; refine app2 wr rfl _ _ 24 64 rfl (.agg #[.int .i64 0, .slice none 0 0]) 32 Tryz.underlying24 info_op2 rfl (by decide) w0.heap.size LL.length vc VA css.flatten rfl hvs (.int .i64 (kk : Int)) (.slice (some ⟨g, 0, none⟩) q q) rfl rfl rfl (by have := HLK.out; omega) (by omega) ?_; intro A8 c8 w8 hown8 hg8 hb8; have BO8 := BOr.grown hg8 (fun e => own_off hvs BOr (by decide) e.symm); have BR8 := BRr.grown hg8 (fun e => own_off hvs BRr (by decide) e.symm); have BP8 := BPr.grown hg8 (fun e => own_off hvs BPr (by decide) e.symm); have cO8 := BO8.cell 1; have fO8 := BO8.frozen 1; simp at cO8)
            have PN2 := (HPU hown8 hg8).far (p := ⟨w.heap.size + 1 + 1, 1, none⟩) (by have := HZ0.out; show w.heap.size + 1 + 1 < w0.heap.size; omega) (.slice A8 (LL.length + 1) c8)
            have hT8 := (hTwi.trans (hb8.mono (by have := HZ0.out; omega))).setCell (p := ⟨w.heap.size + 1 + 1, 1, none⟩) (by show _ ≤ _; simp; try omega) (.slice A8 (LL.length + 1) c8)
            have BO9 : Blk (w8.setCell ⟨w.heap.size + 1 + 1, 1, none⟩ (.slice A8 (LL.length + 1) c8)) (w.heap.size + 1 + 1) 26 #[.int .i64 (n : Int), .slice A8 (LL.length + 1) c8] := by simpa using BO8.set_ 1 (.slice A8 (LL.length + 1) c8)
            have BR9 := BR8.far (p := ⟨w.heap.size + 1 + 1, 1, none⟩) (by simp) (.slice A8 (LL.length + 1) c8)
            have BP9 := BP8.far (p := ⟨w.heap.size + 1 + 1, 1, none⟩) (by simp; try omega) (.slice A8 (LL.length + 1) c8)
            have HFIN := Lib.hid (And.intro BP9 (And.intro BR9 (And.intro BO9 (And.intro PN2 hT8))))
            clear BO9 BR9 BP9 PN2 hT8
            go_roundw
            case rel => exact ⟨k + 1, _, _, _, by omega, by go_num, HFIN.out.1, HFIN.out.2.1, HFIN.out.2.2.1, by rw [HNX.out]; exact HFIN.out.2.2.2.1, HFIN.out.2.2.2.2⟩
            case measure => simp [intOf]; omega
    · have hke : k = ops.length := by omega
      have hlt' : ¬ (k : Int) < (ops.length : Int) := by omega
      rw [List.take_of_length_le (by omega)] at hPO
      obtain ⟨VA, vc, hv⟩ := own_slice hPO.2.1
      rw [List.length_map] at hv
      subst hv
      have hlow : w.heap.size ≤ w0.heap.size := by have := HZ0.out; omega
      have hPF := ((hPO.far (p := ⟨w.heap.size + 1, 0, none⟩) (by have := HZ0.out; show w.heap.size + 1 < w0.heap.size; omega) (.int .i64 (n : Int))).far (p := ⟨w.heap.size + 1, 1, none⟩) (by have := HZ0.out; show w.heap.size + 1 < w0.heap.size; omega) (.slice VA ops.length vc)).mono hlow
      have hTF := (hT.setCell (p := ⟨w.heap.size + 1, 0, none⟩) (by show _ ≤ _; simp) (.int .i64 (n : Int))).setCell (p := ⟨w.heap.size + 1, 1, none⟩) (by show _ ≤ _; simp) (.slice VA ops.length vc)
      have cO0 := BO.cell 0
      have cO1 := BO.cell 1
      have cR0 := BR.cell 0
      have cR1 := BR.cell 1
      have fR0 := BR.frozen 0
      have fR1 := BR.frozen 1
      have BRR : Blk ((wr.setCell ⟨w.heap.size + 1, 0, none⟩ (.int .i64 (n : Int))).setCell ⟨w.heap.size + 1, 1, none⟩ (.slice VA ops.length vc)) (w.heap.size + 1) 26 #[.int .i64 (n : Int), .slice VA ops.length vc] := by simpa using ((BR.set_ 0 (.int .i64 (n : Int))).set_ 1 (.slice VA ops.length vc))
      have HPF := Lib.hid hPF
      simp at cO0 cO1 cR0 cR1
      clear hPF hPO hke
      go_wp2_with fail
      (try simp only [Exit.inBlock, Exit.then])
      refine bodyPost_ret (v := .agg #[.int .i64 (n : Int), .slice VA ops.length vc]) (results_cell_row rfl _ _ (w.heap.size + 1) 26 #[.int .i64 (n : Int), .slice VA ops.length vc] (0, 0) _ (by simp) BRR Tryz.underlying26 rfl (by kernel_rfl)) rfl ?_
      exact ⟨_, css, bls, rfl, HPF.out, hTF⟩
theorem cnt_small {x : AlgebraM} (h : SmallP x) : shAlgebra.cnt x ≤ 1048576 := cnt_alg h.alg
theorem rename_any (cs : List Value) (x : AlgebraM) (N : Option Addr) (n cN : Nat) (s : List Int) (w : World) (h : shAlgebra.rd w cs x) (hs : RdL RI w N n s) (hx : SmallP x) (hp : PermL x.1.toNat s) :
    Calls Tryz.prog 23 #[.agg cs.toArray, .slice N n cN] w (AlgE w (ren x s)) :=
  rename8_any cs x N n cN s w h hs hx.alg hp
section
open Go.Sort
theorem congruences_any (cs : List Value) (x : AlgebraM) (w : World) (h : shAlgebra.rd w cs x) :
    Calls Tryz.prog 32 #[.agg cs.toArray] w fun e w' => ∃ A q c, e = .returned (.tuple #[.slice A q c, .bool (acB x)]) ∧ (acB x = true → OwM 27 3 (.int .i64) w.heap.size w' (.slice A q c) q (conL x.1.toNat x.2)) ∧ Below w.heap.size w w' := by
  have hrd := h
  obtain ⟨B, m, d, rfl, -, -⟩ := rdAlgebra h
  obtain ⟨w0, hw0, T0, hsz0, BP⟩ := boxes1 w #[.int .i64 x.1, .slice B m d] 26
  have HW0 := Lib.hid hw0
  have hr0 := stab_same hrd T0
  have cP0 := BP.cell 0
  have cP1 := BP.cell 1
  simp at cP0 cP1
  have HG := Lib.hid (isAlgebra_any [.int .i64 x.1, .slice B m d] x w0 hr0)
  obtain ⟨r, HR⟩ : ∃ r, Hid (algB x = r) := ⟨_, rfl⟩
  rw [HR.out] at HG
  clear hw0 hrd h
  go_enter Tryz.func32, Tryz.ntmps32
  go_upto_region 1 with fail
  rw [← HW0.out]
  go_wp2_with fail
  refine HG.out.mono ?_
  rintro e w1 ⟨rfl, hb1⟩
  have T1 := below_next T0 hb1 rfl
  have hr1 := stab_same hr0 hb1
  clear cP0 cP1 HG hr0
  have cP0 := (BP.next hb1).cell 0
  have cP1 := (BP.next hb1).cell 1
  simp at cP0 cP1
  rcases r with _ | _
  · have HF : Hid (acB x = false) := by show _ = _; unfold acB; rw [HR.out]; rfl
    go_wp2_with fail
    go_ret2
    rw [HF.out]
    exact ⟨none, 0, 0, rfl, fun h => (by cases h), T1⟩
  · have HF : Hid (acB x = fewB x.1.toNat x.2) := by show _ = _; unfold acB; rw [HR.out]; rfl
    have hx := alg_iff.1 HR.out
    obtain ⟨z, ops⟩ := x
    obtain ⟨n, rfl⟩ : ∃ n : Nat, z = (n : Int) := ⟨z.toNat, by have h1 : 1 ≤ z := hx.1; omega⟩
    have HA := Lib.hid (allCong_any [.int .i64 (n : Int), .slice B m d] ops n w1 hr1 hx)
    go_wp2_with fail
    refine HA.out.mono ?_
    rintro e w2 ⟨A, q, c, rfl, hM, hb2⟩
    go_wp2_with fail
    go_ret2
    rw [HF.out]
    exact ⟨A, q, c, rfl, fun h => (hM h).mono T1.size, below_next T1 hb2 rfl⟩
theorem implAC_any (cs : List Value) (x : AlgebraM) (w : World) (h : shAlgebra.rd w cs x) : Calls Tryz.prog 13 #[.agg cs.toArray] w (OwnMB w (acRes x) (acB x)) := by
  have hrd := h
  obtain ⟨B, m, d, rfl, -, -⟩ := rdAlgebra h
  obtain ⟨w0, hw0, T0, hsz0, BP⟩ := boxes1 w #[.int .i64 x.1, .slice B m d] 26
  have HW0 := Lib.hid hw0
  have hr0 := stab_same hrd T0
  have cP0 := BP.cell 0
  have cP1 := BP.cell 1
  simp at cP0 cP1
  have HG := Lib.hid (congruences_any [.int .i64 x.1, .slice B m d] x w0 hr0)
  have HF : Hid (acRes x = if acB x then conL x.1.toNat x.2 else []) := rfl
  obtain ⟨r, HR⟩ : ∃ r, Hid (acB x = r) := ⟨_, rfl⟩
  rw [HR.out] at HG HF ⊢
  clear hw0 hrd h
  go_enter Tryz.func13, Tryz.ntmps13
  go_upto_region 1 with fail
  rw [← HW0.out]
  go_wp2_with fail
  refine HG.out.mono ?_
  rintro e w1 ⟨A, q, c, rfl, hM, hb1⟩
  have T1 := below_next T0 hb1 rfl
  rcases r with _ | _
  · clear hM
    go_wp2_with fail
    go_ret2
    exact ⟨_, 0, 0, rfl, by rw [HF.out]; exact mat_lit T1, below_next T1 (below_box _ _) rfl⟩
  · replace hM := hM rfl
    go_wp2_with fail
    go_ret2
    exact ⟨A, q, c, rfl, by rw [HF.out]; exact hM.mono T0.size, T1⟩
theorem implIC_any (cs : List Value) (x : AlgebraM) (A : Option Addr) (m c : Nat) (p : List Int) (w : World) (h : shAlgebra.rd w cs x) (hx : AlgP x) (hr : RdL RI w A m p) :
    Calls Tryz.prog 16 #[.agg cs.toArray, .slice A m c] w (Bl w (.tuple #[.bool (congB x.1.toNat x.2 p), .bool true])) := by
  have hrd := h
  obtain ⟨B, k, d, rfl, -, -⟩ := rdAlgebra h
  obtain ⟨w0, hw0, T0, hsz0, BP⟩ := boxes1 w #[.int .i64 x.1, .slice B k d] 26
  have HW0 := Lib.hid hw0
  have hr0 := stab_same hrd T0
  have hp0 := hr.next stab_RI T0
  have cP0 := BP.cell 0
  have cP1 := BP.cell 1
  simp at cP0 cP1
  have HG := Lib.hid (isAlgebra_any [.int .i64 x.1, .slice B k d] x w0 hr0)
  rw [alg_iff.2 hx] at HG
  clear hw0 hrd h hr
  go_enter Tryz.func16, Tryz.ntmps16
  go_upto_region 1 with fail
  rw [← HW0.out]
  go_wp2_with fail
  refine HG.out.mono ?_
  rintro e w1 ⟨rfl, hb1⟩
  have T1 := below_next T0 hb1 rfl
  have HC := Lib.hid (isCongruence_any [.int .i64 x.1, .slice B k d] x A m c p w1 (stab_same hr0 hb1) hx (hp0.next stab_RI hb1))
  clear cP0 cP1 HG hr0
  have cP0 := (BP.next hb1).cell 0
  have cP1 := (BP.next hb1).cell 1
  simp at cP0 cP1
  go_wp2_with fail
  refine HC.out.mono ?_
  rintro e w2 ⟨rfl, hb2⟩
  go_wp2_with fail
  go_ret2
  exact ⟨rfl, below_next T1 hb2 rfl⟩
theorem implIS_any (cs : List Value) (x : AlgebraM) (A : Option Addr) (m c : Nat) (p : List Int) (w : World) (h : shAlgebra.rd w cs x) (hx : AlgP x) (hr : RdL RI w A m p) :
    Calls Tryz.prog 12 #[.agg cs.toArray, .slice A m c] w (Bl w (.tuple #[.bool (subB x.1.toNat x.2 p), .bool true])) := by
  have hrd := h
  obtain ⟨B, k, d, rfl, -, -⟩ := rdAlgebra h
  obtain ⟨w0, hw0, T0, hsz0, BP⟩ := boxes1 w #[.int .i64 x.1, .slice B k d] 26
  have HW0 := Lib.hid hw0
  have hr0 := stab_same hrd T0
  have hp0 := hr.next stab_RI T0
  have cP0 := BP.cell 0
  have cP1 := BP.cell 1
  simp at cP0 cP1
  have HG := Lib.hid (isAlgebra_any [.int .i64 x.1, .slice B k d] x w0 hr0)
  rw [alg_iff.2 hx] at HG
  clear hw0 hrd h hr
  go_enter Tryz.func12, Tryz.ntmps12
  go_upto_region 1 with fail
  rw [← HW0.out]
  go_wp2_with fail
  refine HG.out.mono ?_
  rintro e w1 ⟨rfl, hb1⟩
  have T1 := below_next T0 hb1 rfl
  have HC := Lib.hid (isSub_any [.int .i64 x.1, .slice B k d] x A m c p w1 (stab_same hr0 hb1) hx (hp0.next stab_RI hb1))
  clear cP0 cP1 HG hr0
  have cP0 := (BP.next hb1).cell 0
  have cP1 := (BP.next hb1).cell 1
  simp at cP0 cP1
  go_wp2_with fail
  refine HC.out.mono ?_
  rintro e w2 ⟨rfl, hb2⟩
  go_wp2_with fail
  go_ret2
  exact ⟨rfl, below_next T1 hb2 rfl⟩
theorem isSize_any (n : Nat) (w : World) (h0 : 0 < n) (h8 : n ≤ 8) : Calls Tryz.prog 35 #[.int .i64 (n : Int)] w fun e w' => e = .returned (.bool true) ∧ w = w' := by
  have h1 : (1 : Int) ≤ (n : Int) := by omega
  have h2 : (n : Int) ≤ 8 := by omega
  go_enter Tryz.func35, Tryz.ntmps35
  go_wp2
  go_ret
  exact ⟨rfl, rfl⟩
theorem implPM_any (n : Nat) (A : Option Addr) (c : Nat) (q : List Int) (w : World) (hr : RdL RI w A n q) (h0 : 0 < n) (h8 : n ≤ 8) :
    Calls Tryz.prog 15 #[.int .i64 (n : Int), .slice A n c] w fun e w' => ∃ A' c', e = .returned (.tuple #[.slice A' n c', .bool true]) ∧ RdL RI w' A' n (kerL q) ∧ Below w.heap.size w w' := by
  have hne : ((n : Int) != (n : Int)) = false := by simp
  have HL : Hid ((kerL q).length = n) := by show _ = _; rw [kerL_len, hr.len]
  have HB : Hid (∀ v ∈ kerL q, -9223372036854775808 ≤ v ∧ v ≤ 9223372036854775807) := fun v hv => by have := par_in (ker_par hr.len) v hv; omega
  go_enter Tryz.func15, Tryz.ntmps15
  go_wp2_with fail
  refine (isSize_any n w h0 h8).mono ?_
  rintro e w' ⟨rfl, rfl⟩
  go_wp2_with fail
  refine (kernelOf_any A n c q w hr (by omega)).mono ?_
  rintro e w2 ⟨A2, c2, rfl, ho, hb⟩
  rw [HL.out] at ho ⊢
  go_wp2_with fail
  go_ret2
  exact ⟨A2, c2, rfl, rd_of_own (R := RI) ho (RI_ints HB.out), hb⟩
end
/-- What a push makes of p, and as little as need be. -/
structure PuU (n : Nat) (ops : List OpM) (p out : List Int) (all : Prop) : Prop extends PuI n p out all where
  ul : UL n ops p out
theorem PuU.start {n : Nat} {ops : List OpM} {p : List Int} (h : ParP n p) : PuU n ops p p True := ⟨PuI.start h, UL.refl _ _ _⟩
theorem PuU.congr {n : Nat} {ops : List OpM} {p out : List Int} {a b : Prop} (h : PuU n ops p out a) (e : a ↔ b) : PuU n ops p out b := ⟨h.toPuI.congr e, h.ul⟩
theorem PuU.next {n : Nat} {ops : List OpM} {p out : List Int} {all : Prop} (hp : ParP n p) (h : PuU n ops p out all) (hn : 0 < n) {o : OpM} (ho : o ∈ ops) (hop : OpP n o) {d q x y : Nat} (hd : d < o.1.toNat) (hq : q < o.2.length) (hx : nmAt o.2 q = x) (hy : nmAt o.2 (repI n o.1.toNat p q d) = y) (hxn : x < n) (hyn : y < n) : PuU n ops p (uniL out x y) (all ∧ nmAt p x = nmAt p y) :=
  ⟨h.toPuI.next hp hxn hyn, h.ul.join h.par hp h.ul.1 hn ho hop hd hq hx hy hxn hyn⟩
theorem nats_atX {l : List Nat} {k d : Nat} (h : l[k]? = some d) : (nats l)[k]? = some (d : Int) := by simp [nats, h]
theorem nats_setX (l : List Nat) (p v : Nat) : (nats l).set p (v : Int) = nats (l.set p v) := by simp [nats, List.map_set]
/-- Held together so far: of the operations below j, of the entries below q of the next one, of the digits below d of the next entry. -/
def PhD (n : Nat) (ops : List OpM) (p : List Int) (j q d : Nat) : Prop := (∀ j', j' < j → ∀ o, ops[j']? = some o → ∀ i, i < o.2.length → ∀ d', d' < o.1.toNat → PrE n p o i d') ∧ (∀ o, ops[j]? = some o → (∀ i, i < q → i < o.2.length → ∀ d', d' < o.1.toNat → PrE n p o i d') ∧ (∀ d', d' < d → d' < o.1.toNat → PrE n p o q d'))
theorem PhD.start (n : Nat) (ops : List OpM) (p : List Int) : True ↔ PhD n ops p 0 0 0 := ⟨fun _ => ⟨fun j' h => absurd h (by omega), fun o _ => ⟨fun i h => absurd h (by omega), fun d' h => absurd h (by omega)⟩⟩, fun _ => trivial⟩
theorem PhD.pair {n : Nat} {ops : List OpM} {p : List Int} {j q d : Nat} {o : OpM} (ho : ops[j]? = some o) (hd : d < o.1.toNat) : (PhD n ops p j q d ∧ PrE n p o q d) ↔ PhD n ops p j q (d + 1) := by
  constructor
  · rintro ⟨⟨h1, h2⟩, he⟩
    refine ⟨h1, fun o' ho' => ?_⟩
    rw [ho] at ho'
    injection ho' with ho'
    subst ho'
    refine ⟨(h2 _ ho).1, fun d' h' ha => ?_⟩
    by_cases e : d' = d
    · subst e; exact he
    · exact (h2 _ ho).2 d' (by omega) ha
  · rintro ⟨h1, h2⟩
    exact ⟨⟨h1, fun o' ho' => ⟨(h2 o' ho').1, fun d' h' ha => (h2 o' ho').2 d' (by omega) ha⟩⟩, (h2 o ho).2 d (by omega) hd⟩
theorem PhD.entry {n : Nat} {ops : List OpM} {p : List Int} {j q d : Nat} {o : OpM} (ho : ops[j]? = some o) (hd : ¬ d < o.1.toNat) (hq : q < o.2.length) : PhD n ops p j q d ↔ PhD n ops p j (q + 1) 0 := by
  constructor
  · rintro ⟨h1, h2⟩
    refine ⟨h1, fun o' ho' => ⟨fun i hi hil d' hd' => ?_, fun d' h => absurd h (by omega)⟩⟩
    rw [ho] at ho'
    injection ho' with ho'
    subst ho'
    by_cases e : i = q
    · subst e; exact (h2 _ ho).2 d' (by omega) hd'
    · exact (h2 _ ho).1 i (by omega) hil d' hd'
  · rintro ⟨h1, h2⟩
    refine ⟨h1, fun o' ho' => ⟨fun i hi hil => (h2 o' ho').1 i (by omega) hil, fun d' h' ha => ?_⟩⟩
    rw [ho] at ho'
    injection ho' with ho'
    subst ho'
    exact (h2 _ ho).1 q (by omega) hq d' ha
theorem PhD.op {n : Nat} {ops : List OpM} {p : List Int} {j q : Nat} {o : OpM} (ho : ops[j]? = some o) (hq : ¬ q < o.2.length) : PhD n ops p j q 0 ↔ PhD n ops p (j + 1) 0 0 := by
  constructor
  · rintro ⟨h1, h2⟩
    refine ⟨fun j' hj' o' ho' i hi d' hd' => ?_, fun o' _ => ⟨fun i h => absurd h (by omega), fun d' h => absurd h (by omega)⟩⟩
    by_cases e : j' = j
    · subst e; exact (h2 o' ho').1 i (by rw [ho] at ho'; injection ho' with ho'; subst ho'; omega) hi d' hd'
    · exact h1 j' (by omega) o' ho' i hi d' hd'
  · rintro ⟨h1, h2⟩
    exact ⟨fun j' hj' => h1 j' (by omega), fun o' ho' => ⟨fun i _ hil d' hd' => h1 j (by omega) o' ho' i hil d' hd', fun d' h => absurd h (by omega)⟩⟩
theorem PhD.done {n : Nat} {ops : List OpM} {p : List Int} {j : Nat} (hj : ¬ j < ops.length) : PhD n ops p j 0 0 ↔ CompP n ops p := by
  constructor
  · rintro ⟨h1, -⟩ o ho d hd i hi
    obtain ⟨j', hj'⟩ := List.getElem?_of_mem ho
    have := (List.getElem?_eq_some_iff.1 hj').1
    exact h1 j' (by omega) o hj' i hi d hd
  · intro h
    refine ⟨fun j' _ o ho i hi d hd => h o (List.mem_of_getElem? ho) d hd i hi, fun o ho => ?_⟩
    have := (List.getElem?_eq_some_iff.1 ho).1
    omega
theorem l6Push_any (cs : List Value) (x : AlgebraM) (A : Option Addr) (n c : Nat) (p : List Int) (w : World) (h : shAlgebra.rd w cs x) (hx : AlgP x) (hn : x.1 = (n : Int)) (hr : RdL RI w A n p) (hp : ParP n p) :
    Calls Tryz.prog 122 #[.agg cs.toArray, .slice A n c] w fun e w' => ∃ A' c' P, e = .returned (.slice A' n c') ∧ RdL RI w' A' n P ∧ PuU n x.2 p P (CompP n x.2 p) ∧ Below w.heap.size w w' := by
  have hrd := h
  obtain ⟨a, ops⟩ := x
  have hxx := hx
  obtain ⟨hx1, hx2, hx3, hx4⟩ := hx
  simp only at hx1 hx2 hx3 hx4 hn
  subst hn
  rw [Int.toNat_natCast] at hx4
  have hn0 : 0 < n := by omega
  have hn8 : n ≤ 8 := by omega
  obtain ⟨B, m, d, rfl, -, qo⟩ := rdAlgebra h
  have HML := Lib.hid qo.len
  have HOPS := Lib.hid hx4
  have hm4 : m ≤ 4 := by rw [← qo.len]; exact hx3
  have HP := Lib.hid hp
  obtain ⟨w0, hw0, T0, hsz0, BP⟩ := boxes1 w #[.int .i64 (n : Int), .slice B m d] 26
  have HW0 := Lib.hid hw0
  have HRD : Hid (∀ wz, Below w0.heap.size w0 wz → shAlgebra.rd wz [.int .i64 (n : Int), .slice B m d] ((n : Int), ops)) := fun wz hz => shAlgebra.stab (shAlgebra.stab hrd T0.block) hz.block
  replace qo := qo.next T0
  have r0 := hr.next stab_RI T0
  have cP0 := BP.cell 0
  have cP1 := BP.cell 1
  simp at cP0 cP1
  have HOWN := Lib.hid (l1Own_any A n c p w0 r0 (by omega))
  have HPB := Lib.hid hr.bounds
  clear hw0 hsz0 hx3 hx4 h hr hrd hxx hp
  go_enter Tryz.func122, Tryz.ntmps122
  go_upto_region 1 with fail
  rw [← HW0.out]
  go_wp2_with fail
  refine HOWN.out.mono ?_
  rintro e w1 ⟨A5, c5, rfl, ho5, T1⟩
  have r5 := rd_of_own (R := RI) ho5 (RI_ints HPB.out)
  clear ho5
  go_wp2_with fail
  go_loopw [5, 6] (fun s i wr => ∃ (j : Nat) (A5 : Option Addr) (c5 : Nat) (P : List Int), j ≤ m ∧ i = .int .i64 j ∧ s = .slice A5 n c5 ∧ RdL RI wr A5 n P ∧ Hid (PuU n ops p P (PhD n ops p j 0 0)) ∧ Below w0.heap.size w0 wr) (fun _ i _ => m - (intOf i).toNat)
  case atStart => exact ⟨0, A5, c5, p, Nat.zero_le _, rfl, rfl, r5, (PuU.start HP.out).congr (PhD.start _ _ _), T1⟩
  case round =>
    clear r5 T1
    obtain ⟨j, A5, c5, P, hj, rfl, rfl, r5, HI, hTr⟩ := hrel
    have kP1 := keepc hTr cP1
    by_cases hlt : j < m
    · have hj0 : (0 : Int) ≤ (j : Int) := by omega
      have hj1 : (j : Int) < (m : Int) := by omega
      obtain ⟨b, o, vs, op, rfl, -, hc, hrr, -, hxo⟩ := qo.at hlt
      obtain ⟨B', m', d', rfl, -, qt⟩ := rdOp hrr
      have hoP := HOPS.out op (List.mem_of_getElem? hxo)
      obtain ⟨ar, tb, rfl, har⟩ := op_nat hoP
      have HXO := Lib.hid hxo
      have HTL : Hid (m' = n ^ ar) := by show _ = _; rw [← qt.len]; have := hoP.2.2.1; simpa using this
      have HTB : Hid (tb.length = m') := qt.len
      have HTV := Lib.hid hoP.2.2.2
      have hm512 : m' ≤ 4096 := by rw [HTL.out]; exact pow_bd hn8 (by omega)
      have cc0 : w0.cell? ⟨b, o + j * 2, none⟩ = some (.int .i64 (ar : Int)) := hc 0 _ rfl
      have cc1 : w0.cell? ⟨b, o + j * 2 + 1, none⟩ = some (.slice B' m' d') := hc 1 _ rfl
      clear hc hrr hxo hoP
      go_wp2_with fail
      clear kP1
      go_loopw [5, 7] (fun s i wr => ∃ (q : Nat) (A5 : Option Addr) (c5 : Nat) (P : List Int), q ≤ m' ∧ i = .int .i64 q ∧ s = .slice A5 n c5 ∧ RdL RI wr A5 n P ∧ Hid (PuU n ops p P (PhD n ops p j q 0)) ∧ Below w0.heap.size w0 wr) (fun _ i _ => m' - (intOf i).toNat)
      case atStart => exact ⟨0, A5, c5, P, Nat.zero_le _, rfl, rfl, r5, HI, hTr⟩
      case round =>
        clear r5 HI hTr
        obtain ⟨q, A5, c5, P, hq, rfl, rfl, r5, HI, hTr⟩ := hrel
        have kP0 := keepc hTr cP0
        have kP1 := keepc hTr cP1
        have kc0 := keepc hTr cc0
        have kc1 := keepc hTr cc1
        by_cases hlq : q < m'
        · have hq0 : (0 : Int) ≤ (q : Int) := by omega
          have hq1 : (q : Int) < (m' : Int) := by omega
          have HA : Hid (∀ wz, Below wr.heap.size wr wz → Calls Tryz.prog 53 #[.int .i64 (n : Int), .int .i64 (ar : Int), .int .i64 (q : Int)] wz fun e w' => ∃ g, e = .returned (.slice (some ⟨g, 0, none⟩) ar ar) ∧ w'.ownsRow wz.heap.size 3 1 (.slice (some ⟨g, 0, none⟩) ar ar) ar (ints (nats (digs n ar q))) ∧ Below wz.heap.size wz w') := fun wz hz => l2Args_any q ar n wz hn0 (by omega) (by omega) (by omega)
          have Tk : Below wr.heap.size wr wr := Below.refl _ _
          go_upto_region 8 with fail
          go_cut [8] from 31 to 73 (fun u8 wx => ∃ g, u8 = .slice (some ⟨g, 0, none⟩) ar ar ∧ wx.ownsRow wr.heap.size 3 1 (.slice (some ⟨g, 0, none⟩) ar ar) ar (ints (nats (digs n ar q))) ∧ Below wr.heap.size wr wx)
          case first =>
            go_region_held3 (fun w' => w'.cell? ⟨w.heap.size, 0, none⟩ = some (.int .i64 (n : Int)) ∧ w'.cell? ⟨w.heap.size, 1, none⟩ = some (.slice (some ⟨b, o, none⟩) m d) ∧ w'.cell? ⟨b, o + j * 2, none⟩ = some (.int .i64 (ar : Int))) (first | go_keep | exact ⟨keepc Tk kP0, keepc Tk kP1, keepc Tk kc0⟩) (first
              | (go_at_call 53; (with_reducible refine (HA.out _ ?_).mono ?_); (first | exact Tk | exact Below.drew Tk); rintro e wn ⟨g, rfl, hon, hbn⟩; replace Tk := below_next (by first | exact Tk | exact Below.drew Tk) hbn rfl))
            all_goals
              have HON := Lib.hid hon
              clear hon
              go_wp2_with fail
              go_meet
              exact ⟨g, rfl, HON.out, by first | exact Tk | exact Below.drew Tk⟩
          case rest =>
            obtain ⟨g, rfl, hoA, hTc⟩ := hcut
            obtain ⟨w4, HWC⟩ : ∃ wq : World, wq = wc := ⟨_, rfl⟩
            subst HWC
            have T4 := below_next hTr hTc rfl
            obtain ⟨ds, HDS⟩ : ∃ l, Hid (digs n ar q = l) := ⟨_, rfl⟩
            have HDN : Hid (∀ dd ∈ ds, dd < n) := fun dd hdd => by rw [← HDS.out] at hdd; exact digs_lt hn0 hdd
            have HDL : Hid (ds.length = ar) := by show _ = _; rw [← HDS.out, digs_len]
            rw [HDS.out] at hoA
            have rA := rd_of_own (R := RI) hoA (RI_ints fun v hv => by
              obtain ⟨dd, hdd, rfl⟩ := List.mem_map.1 hv
              have := HDN.out dd hdd
              omega)
            have r54 := r5.next stab_RI hTc
            clear kP0 kP1 kc0 kc1 hoA r5
            go_wp2_with fail
            go_loopw [5, 9] (fun s i wr => ∃ (k : Nat) (A5 : Option Addr) (c5 : Nat) (P : List Int), k ≤ ar ∧ i = .int .i64 k ∧ s = .slice A5 n c5 ∧ RdL RI wr A5 n P ∧ Hid (PuU n ops p P (PhD n ops p j q k)) ∧ Below w4.heap.size w4 wr) (fun _ i _ => ar - (intOf i).toNat)
            case atStart => exact ⟨0, A5, c5, P, Nat.zero_le _, rfl, rfl, r54, HI, Below.refl _ _⟩
            case round =>
              clear r54 HI
              obtain ⟨k, A5, c5, P, hk, rfl, rfl, r5, HI, hTk⟩ := hrel
              have TT := below_next T4 hTk rfl
              have kP0 := keepc TT cP0
              have kP1 := keepc TT cP1
              have kc1 := keepc TT cc1
              by_cases hlk : k < ar
              · have hk0 : (0 : Int) ≤ (k : Int) := by omega
                have hk1 : (k : Int) < (ar : Int) := by omega
                have rA2 := rA.next stab_RI hTk
                have HOW := Lib.hid (l1Own_any (some ⟨g, 0, none⟩) ar ar (nats ds) wr rA2 (by omega))
                go_wp2_with fail
                refine HOW.out.mono ?_
                rintro e w6 ⟨A7, c7, rfl, ho7, hb7⟩
                obtain ⟨g7, rfl, hg7, -⟩ := own_form ho7 (by omega)
                have hpl : k < ds.length := by rw [HDL.out]; exact hlk
                have hdp : ds[k]? = some ds[k] := List.getElem?_eq_getElem hpl
                have hdn := HDN.out _ (List.getElem_mem hpl)
                generalize ds[k] = dd at hdp hdn
                have T6 := below_next TT hb7 rfl
                obtain ⟨u1, z1, hcd, ⟨rfl, -, -⟩, -, hxd⟩ := (rA2.next stab_RI hb7).at' hlk
                rw [nats_atX hdp] at hxd
                rw [Nat.zero_add] at hcd
                injection hxd with hxd
                subst hxd
                have hpd := HP.out.at hdn
                obtain ⟨bp, op', u2, z2, rfl, hcp, ⟨rfl, -, -⟩, -, hxp⟩ := (r0.next stab_RI T6).at hdn
                rw [hpd.1] at hxp
                injection hxp with hxp
                subst hxp
                obtain ⟨pd, HPD⟩ : ∃ z, Hid (nmAt p dd = z) := ⟨_, rfl⟩
                have hpdn : pd < n := by rw [← HPD.out]; exact par_lt HP.out hdn
                rw [HPD.out] at hcp
                have hd0 : (0 : Int) ≤ (dd : Int) := by omega
                have hd1 : (dd : Int) < (n : Int) := by omega
                have hc7 : ∃ u, w6.cell? ⟨g7, k, none⟩ = some u := ⟨_, (ho7.cellAt k (by omega)).trans (List.getElem?_eq_getElem (by rw [ints_len, nats_len]; omega))⟩
                obtain ⟨u7, hc7⟩ := hc7
                have hfz := ho7.frozenAt k
                have hst := (ho7.stored k (.int .i64 (pd : Int))).1
                rw [ints_set, nats_setX] at hst
                obtain ⟨l7, HL7⟩ : ∃ l, Hid (ds.set k pd = l) := ⟨_, rfl⟩
                rw [HL7.out] at hst
                have HL7N : Hid (∀ z ∈ l7, z < n) := fun z hz => by
                  rw [← HL7.out] at hz
                  rcases List.mem_or_eq_of_mem_set hz with hz | rfl
                  · exact HDN.out z hz
                  · exact hpdn
                have HREP : Hid (idx n l7 = repI n ar p q k) := by
                  show _ = _
                  unfold repI
                  rw [HDS.out, List.getD_eq_getElem?_getD, hdp, ← HL7.out]
                  show _ = idx n (ds.set k (nmAt p dd))
                  rw [HPD.out]
                have hrd7 : RdL RI (w6.setCell ⟨g7, k, none⟩ (.int .i64 (pd : Int))) (some ⟨g7, 0, none⟩) ar (nats l7) := rd_of_own (R := RI) hst (RI_ints fun v hv => by
                  obtain ⟨z, hz, rfl⟩ := List.mem_map.1 hv
                  have := HL7N.out z hz
                  omega)
                obtain ⟨w7, HW7⟩ : ∃ w7, Hid (w7 = w6.setCell ⟨g7, k, none⟩ (.int .i64 (pd : Int))) := ⟨_, rfl⟩
                have hb67 : Below wr.heap.size wr w7 := by rw [HW7.out]; exact hb7.setCell hg7 _
                rw [← HW7.out] at hrd7
                have T7 := below_next TT hb67 rfl
                have r57 := r5.next stab_RI hb67
                -- the two elements
                obtain ⟨b3, o3, u3, v3, rfl, hc3, ⟨rfl, -, -⟩, -, hxv⟩ := (qt.next stab_RI T7).at hlq
                have hvi := HTV.out v3 (List.mem_of_getElem? hxv)
                obtain ⟨y1, rfl⟩ := Int.eq_ofNat_of_zero_le hvi.1
                have hy1n : y1 < n := by omega
                have HY1 : Hid (nmAt tb q = y1) := by show _ = _; rw [nmAt_get hxv]; simp
                have hRPm : repI n ar p q k < tb.length := by rw [HTB.out, HTL.out]; exact repI_lt hn0 HP.out
                have hvi4 := HTV.out _ (List.getElem_mem hRPm)
                have hx4 : tb[repI n ar p q k]? = some tb[repI n ar p q k] := List.getElem?_eq_getElem hRPm
                generalize tb[repI n ar p q k] = v4 at hvi4 hx4
                obtain ⟨y2, rfl⟩ := Int.eq_ofNat_of_zero_le hvi4.1
                have hy2n : y2 < n := by omega
                have HY2 : Hid (nmAt tb (repI n ar p q k) = y2) := by show _ = _; rw [nmAt_get hx4]; simp
                have HX4 := Lib.hid hx4
                have HV2 : Hid (∀ wz, Below w7.heap.size w7 wz → Calls Tryz.prog 125 #[.agg #[.int .i64 (n : Int), .slice (some ⟨b, o, none⟩) m d], .int .i64 (j : Int), .slice (some ⟨g7, 0, none⟩) ar c7] wz (Bl wz (.int .i64 (y2 : Int)))) := fun wz hz => l2Value_any _ ((n : Int), ops) (some ⟨g7, 0, none⟩) ar c7 j n ar y2 l7 tb wz (HRD.out wz (below_next T7 hz rfl)) rfl hn8 (hrd7.next stab_RI hz) HL7N.out (by omega) HXO.out (by rw [HREP.out]; exact HX4.out)
                have HUN : Hid (∀ wz, Below w7.heap.size w7 wz → Calls Tryz.prog 109 #[.slice A5 n c5, .int .i64 (y1 : Int), .int .i64 (y2 : Int)] wz fun e w' => ∃ A' c', e = .returned (.slice A' n c') ∧ w'.ownsRow wz.heap.size 3 1 (.slice A' n c') n (ints (uniL P y1 y2)) ∧ Below wz.heap.size wz w') := fun wz hz => l6Unite_any A5 n c5 P y1 y2 wz (r57.next stab_RI hz) HI.out.par hy1n hy2n (by omega)
                have HI2 : Hid (PuU n ops p (uniL P y1 y2) (PhD n ops p j q (k + 1))) := (HI.out.next HP.out hn0 (List.mem_of_getElem? HXO.out) (HOPS.out _ (List.mem_of_getElem? HXO.out)) (d := k) (by simpa using hlk) (by have := HTB.out; simp only; omega) HY1.out (by simpa using HY2.out) hy1n hy2n).congr (by
                  rw [← PhD.pair HXO.out (by simpa using hlk)]
                  unfold PrE
                  simp only [Int.toNat_natCast]
                  rw [HY1.out, HY2.out])
                have HUP : Hid (ParP n (uniL P y1 y2)) := HI2.out.par
                have jP0 := keepc T7 cP0
                have jP1 := keepc T7 cP1
                have jc1 := keepc T7 cc1
                have Tk : Below w7.heap.size w7 w7 := Below.refl _ _
                clear hst hxv hvi hx4 hvi4 hRPm hdp kP0 kc1 kP1 r5
                go_upto_region 14 with fail
                rw [← HW7.out]
                go_region_held3 (fun w' => w'.cell? ⟨w.heap.size, 0, none⟩ = some (.int .i64 (n : Int)) ∧ w'.cell? ⟨w.heap.size, 1, none⟩ = some (.slice (some ⟨b, o, none⟩) m d) ∧ w'.cell? ⟨b, o + j * 2 + 1, none⟩ = some (.slice (some ⟨b3, o3, none⟩) m' d') ∧ w'.cell? ⟨b3, o3 + q, none⟩ = some (.int .i64 (y1 : Int))) (first | go_keep | exact ⟨keepc Tk jP0, keepc Tk jP1, keepc Tk jc1, keepc Tk hc3⟩) (first
                  | (go_at_call 125; (with_reducible refine (HV2.out _ ?_).mono ?_); (first | exact Tk | exact Below.drew Tk); rintro e wn ⟨rfl, hbn⟩; replace Tk := below_next (by first | exact Tk | exact Below.drew Tk) hbn rfl)
                  | (go_at_call 109; (with_reducible refine (HUN.out _ ?_).mono ?_); (first | exact Tk | exact Below.drew Tk); rintro e wn ⟨A8, c8, rfl, hon, hbn⟩; replace hon := own_mono (base' := w7.heap.size) hon (by exact Tk.size); replace Tk := below_next (by first | exact Tk | exact Below.drew Tk) hbn rfl))
                all_goals
                  have T8 : Below w7.heap.size w7 _ := (by first | exact Tk | exact Below.drew Tk)
                  have r8 := rd_of_own (R := RI) hon (RI_ints fun v hv => by
                    obtain ⟨i, hi⟩ := List.getElem?_of_mem hv
                    have hil : i < n := by rw [← HUP.out.1]; exact (List.getElem?_eq_some_iff.1 hi).1
                    have h1 := HUP.out.at hil
                    rw [h1.1] at hi
                    injection hi with hi
                    omega)
                  clear hon hrd7
                  go_wp2_with fail
                  go_roundw
                  case rel => exact ⟨k + 1, A8, c8, _, by omega, by go_num, rfl, r8, HI2, below_next hTk (below_next hb67 T8 rfl) rfl⟩
                  case measure => simp [intOf]; try omega
              · have hk1 : ¬ (k : Int) < (ar : Int) := by omega
                have HI2 : Hid (PuU n ops p P (PhD n ops p j (q + 1) 0)) := HI.out.congr (PhD.entry HXO.out (by simpa using hlk) (by have := HTB.out; simp only; omega))
                clear kP0 kP1 kc1
                go_wp2_with fail
                go_roundw
                case rel => exact ⟨q + 1, A5, c5, P, by omega, by go_num, rfl, r5, HI2, TT⟩
                case measure => simp [intOf]; try omega
        · have hq1 : ¬ (q : Int) < (m' : Int) := by omega
          have HI2 : Hid (PuU n ops p P (PhD n ops p (j + 1) 0 0)) := HI.out.congr (PhD.op HXO.out (by have := HTB.out; simp only; omega))
          go_wp2_with fail
          go_roundw
          case rel => exact ⟨j + 1, A5, c5, P, by omega, by go_num, rfl, r5, HI2, hTr⟩
          case measure => simp [intOf]; try omega
    · have hj1 : ¬ (j : Int) < (m : Int) := by omega
      have HI2 : Hid (PuU n ops p P (CompP n ops p)) := HI.out.congr (PhD.done (by rw [HML.out]; exact hlt))
      go_wp2_with fail
      go_ret
      exact ⟨A5, ⟨c5, rfl⟩, P, r5, HI2.out, below_next T0 hTr rfl⟩
end Go.Proofs.YtbkgbckbbnflpaaGreat
