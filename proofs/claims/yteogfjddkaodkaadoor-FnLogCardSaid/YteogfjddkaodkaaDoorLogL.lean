
/- Plain law of records and logs: a record's line, what reading a text of lines gives. No program. -/
import Derived.Lib.ItoaNum
import Derived.Lib.ItoaMem
import Derived.Lib.IndexMore
import Derived.Lib.Strings
import Derived.Test.YteogfjddkaodkaaDoorRec
namespace Go.Proofs.YteogfjddkaodkaaDoor

abbrev Bs := List UInt8
theorem u8_toNat {n : Nat} (h : n < 256) : (UInt8.ofNat n).toNat = n := by
  rw [UInt8.toNat_ofNat']
  exact Nat.mod_eq_of_lt h
theorem dec_digit (u : Nat) : ∀ c ∈ Lib.decDigits u, 48 ≤ c.toNat ∧ c.toNat ≤ 57 := by
  induction u using Nat.strongRecOn with
  | _ u ih =>
    intro c hc
    rw [Lib.decDigits] at hc
    split at hc
    · rw [List.mem_singleton] at hc
      subst hc
      rw [u8_toNat (by omega)]
      omega
    · rcases List.mem_append.1 hc with h | h
      · exact ih (u / 10) (by omega) c h
      · rw [List.mem_singleton] at h
        subst h
        rw [u8_toNat (by omega)]
        omega
def goodL (c r : Bs) : Bool := !c.isEmpty && (allOk c && decide ((c.length : Int) ≤ 160)) && !(has 64 c) && (allOk r && decide ((r.length : Int) ≤ 200))
theorem goodB_eq (c r : ByteArray) : goodB c r = goodL (bs c) (bs r) := rfl
theorem allOk_mem : ∀ {l : Bs}, allOk l = true → ∀ c ∈ l, 32 ≤ c.toNat ∧ c.toNat ≤ 126 ∧ c.toNat ≠ 35
  | [], _, c, h => by simp at h
  | x :: l, h, c, hc => by
    rw [allOk, Bool.and_eq_true] at h
    rcases List.mem_cons.1 hc with rfl | hc
    · have := h.1
      simp [okB] at this
      omega
    · exact allOk_mem h.2 c hc
theorem has_mem {c : UInt8} : ∀ {l : Bs}, has c.toNat l = true ↔ c ∈ l
  | [] => by simp [has]
  | x :: l => by
    rw [has, Bool.or_eq_true, has_mem (l := l), List.mem_cons, beq_iff_eq]
    constructor
    · rintro (h | h)
      · exact .inl (UInt8.toNat_inj.1 (by omega))
      · exact .inr h
    · rintro (h | h)
      · exact .inl (by rw [h])
      · exact .inr h
theorem has64 {l : Bs} : has 64 l = true ↔ (64 : UInt8) ∈ l := has_mem (c := 64)
structure Good (c r : Bs) : Prop where
  ne : c ≠ []
  lc : c.length ≤ 160
  lr : r.length ≤ 200
  oc : ∀ x ∈ c, 32 ≤ x.toNat ∧ x.toNat ≤ 126 ∧ x.toNat ≠ 35
  orr : ∀ x ∈ r, 32 ≤ x.toNat ∧ x.toNat ≤ 126 ∧ x.toNat ≠ 35
  at_ : (64 : UInt8) ∉ c
theorem goodL_good {c r : Bs} (h : goodL c r = true) : Good c r := by
  unfold goodL at h
  simp only [Bool.and_eq_true, Bool.not_eq_true', decide_eq_true_eq] at h
  obtain ⟨⟨⟨h1, h2, h3⟩, h4⟩, h5, h6⟩ := h
  refine ⟨fun e => by simp [e] at h1, by omega, by omega, allOk_mem h2, allOk_mem h5, fun hm => ?_⟩
  rw [has64.2 hm] at h4
  exact absurd h4 (by decide)

def bodyL (k : Nat) (c r : Bs) : Bs := Lib.decDigits k ++ 32 :: (c ++ 64 :: r)
def sumF (h : Nat) (c : UInt8) : Nat := (41 * h + c.toNat + 1) % 999979
def sumL (l : Bs) : Nat := l.foldl sumF 7
theorem sumF_lt (h : Nat) (c : UInt8) : sumF h c < 999979 := Nat.mod_lt _ (by decide)
theorem sumL_lt' : ∀ (l : Bs) (h : Nat), h < 999979 → l.foldl sumF h < 999979
  | [], _, h => h
  | _ :: l, _, _ => sumL_lt' l _ (sumF_lt _ _)
theorem sumL_lt (l : Bs) : sumL l < 999979 := sumL_lt' l 7 (by decide)
def sealL (l : Bs) : Bs := l ++ 35 :: Lib.decDigits (sumL l)
def lineL (k : Nat) (c r : Bs) : Bs := sealL (bodyL k c r) ++ [10]

theorem ndig_le {u : Nat} (h : u < 1000000) : Lib.nDigits u ≤ 6 := by
  rcases Nat.lt_or_ge u 10 with h1 | h1
  · rw [Lib.nDigits_small h1]; omega
  rw [Lib.nDigits_big (by omega)]
  rcases Nat.lt_or_ge (u / 10) 10 with h2 | h2
  · rw [Lib.nDigits_small h2]; omega
  rw [Lib.nDigits_big (by omega)]
  rcases Nat.lt_or_ge (u / 10 / 10) 10 with h3 | h3
  · rw [Lib.nDigits_small h3]; omega
  rw [Lib.nDigits_big (by omega)]
  rcases Nat.lt_or_ge (u / 10 / 10 / 10) 10 with h4 | h4
  · rw [Lib.nDigits_small h4]; omega
  rw [Lib.nDigits_big (by omega)]
  rcases Nat.lt_or_ge (u / 10 / 10 / 10 / 10) 10 with h5 | h5
  · rw [Lib.nDigits_small h5]; omega
  rw [Lib.nDigits_big (by omega), Lib.nDigits_small (by omega)]
  omega
theorem dec_len {u : Nat} (h : u < 1000000) : (Lib.decDigits u).length ≤ 6 := by rw [Lib.decDigits_length]; exact ndig_le h
theorem dec_len2 {u : Nat} (h : u < 100) : (Lib.decDigits u).length ≤ 2 := by
  rw [Lib.decDigits_length]
  rcases Nat.lt_or_ge u 10 with h1 | h1
  · rw [Lib.nDigits_small h1]; omega
  · rw [Lib.nDigits_big (by omega), Lib.nDigits_small (by omega)]; omega
theorem body_len {k : Nat} {c r : Bs} (hk : k < 60) (hg : Good c r) : (bodyL k c r).length ≤ 364 := by
  have := dec_len2 (u := k) (by omega)
  have := hg.lc
  have := hg.lr
  simp [bodyL]
  omega
theorem seal_len {l : Bs} : (sealL l).length ≤ l.length + 7 := by
  have := dec_len (u := sumL l) (by have := sumL_lt l; omega)
  simp [sealL]
  omega
theorem line_len {k : Nat} {c r : Bs} (hk : k < 60) (hg : Good c r) : (lineL k c r).length ≤ 372 := by
  have := body_len hk hg
  have := seal_len (l := bodyL k c r)
  simp [lineL]
  omega
theorem nd {c : UInt8} {u : Nat} (hc : ¬ (48 ≤ c.toNat ∧ c.toNat ≤ 57)) : c ∉ Lib.decDigits u := fun hm => hc (dec_digit u c hm)
theorem nk {c : UInt8} {l : Bs} (h : ∀ x ∈ l, 32 ≤ x.toNat ∧ x.toNat ≤ 126 ∧ x.toNat ≠ 35) (hc : ¬ (32 ≤ c.toNat ∧ c.toNat ≤ 126 ∧ c.toNat ≠ 35)) : c ∉ l := fun hm => hc (h c hm)
theorem body_no {k : Nat} {c r : Bs} (hg : Good c r) : (35 : UInt8) ∉ bodyL k c r ∧ (10 : UInt8) ∉ bodyL k c r := by
  unfold bodyL
  simp only [List.mem_append, List.mem_cons, not_or]
  refine ⟨⟨nd (by decide), by decide, nk hg.oc (by decide), by decide, nk hg.orr (by decide)⟩, ⟨nd (by decide), by decide, nk hg.oc (by decide), by decide, nk hg.orr (by decide)⟩⟩
theorem seal_no {l : Bs} (h : (10 : UInt8) ∉ l) : (10 : UInt8) ∉ sealL l := by
  unfold sealL
  simp only [List.mem_append, List.mem_cons, not_or]
  exact ⟨h, by decide, nd (by decide)⟩

theorem split_unique {c : UInt8} : ∀ {a b x y : Bs}, c ∉ a → c ∉ b → a ++ c :: x = b ++ c :: y → a = b ∧ x = y
  | [], [], _, _, _, _, h => by simpa using h
  | [], d :: b, _, _, _, hb, h => by
    simp at h
    exact absurd h.1 fun e => hb (by rw [e]; simp)
  | d :: a, [], _, _, ha, _, h => by
    simp at h
    exact absurd h.1 fun e => ha (by rw [e]; simp)
  | d :: a, e :: b, x, y, ha, hb, h => by
    simp only [List.cons_append, List.cons.injEq] at h
    obtain ⟨h1, h2⟩ := split_unique (fun hm => ha (List.mem_cons_of_mem _ hm)) (fun hm => hb (List.mem_cons_of_mem _ hm)) h.2
    exact ⟨by rw [h.1, h1], h2⟩
theorem line_eq (k : Nat) (c r : Bs) : lineL k c r = Lib.decDigits k ++ 32 :: (c ++ 64 :: (r ++ 35 :: (Lib.decDigits (sumL (bodyL k c r)) ++ [10]))) := by
  simp [lineL, sealL, bodyL]
theorem line_inj {k : Nat} {c r c' r' : Bs} (hg : Good c r) (hg' : Good c' r') (h : lineL k c r = lineL k c' r') : c = c' ∧ r = r' := by
  rw [line_eq, line_eq] at h
  have h1 := (List.append_cancel_left h)
  simp only [List.cons.injEq, true_and] at h1
  obtain ⟨h2, h3⟩ := split_unique hg.at_ hg'.at_ h1
  exact ⟨h2, (split_unique (nk hg.orr (by decide)) (nk hg'.orr (by decide)) h3).1⟩
theorem line_k {k k' : Nat} {c r c' r' : Bs} (h : lineL k c r = lineL k' c' r') : Lib.decDigits k = Lib.decDigits k' := by
  rw [line_eq, line_eq] at h
  exact (split_unique (nd (by decide)) (nd (by decide)) h).1
theorem dec_inj : ∀ {u v : Nat}, Lib.decDigits u = Lib.decDigits v → u = v := by
  intro u
  induction u using Nat.strongRecOn with
  | _ u ih =>
    intro v h
    rcases Nat.lt_or_ge u 10 with hu | hu <;> rcases Nat.lt_or_ge v 10 with hv | hv
    · rw [Lib.decDigits_one hu, Lib.decDigits_one hv] at h
      simp only [List.cons.injEq, and_true] at h
      have := congrArg UInt8.toNat h
      rw [u8_toNat (by omega), u8_toNat (by omega)] at this
      omega
    · have := congrArg List.length h
      rw [Lib.decDigits_length, Lib.decDigits_length, Lib.nDigits_small hu, Lib.nDigits_big (by omega)] at this
      have := Lib.nDigits_pos (v / 10)
      omega
    · have := congrArg List.length h
      rw [Lib.decDigits_length, Lib.decDigits_length, Lib.nDigits_small hv, Lib.nDigits_big (by omega)] at this
      have := Lib.nDigits_pos (u / 10)
      omega
    · rw [Lib.decDigits, dif_neg (by omega), Lib.decDigits.eq_def v, dif_neg (by omega)] at h
      obtain ⟨h1, h2⟩ := List.append_inj' h rfl
      have h3 := ih (u / 10) (by omega) h1
      simp only [List.cons.injEq, and_true] at h2
      have := congrArg UInt8.toNat h2
      rw [u8_toNat (by omega), u8_toNat (by omega)] at this
      omega

/-! ## decoding -/
/-- What stands before the first c, and behind it. -/
def cutAt (c : UInt8) : Bs → Bs × Bs
  | [] => ([], [])
  | x :: l => if x = c then ([], l) else (x :: (cutAt c l).1, (cutAt c l).2)
theorem cutAt_app {c : UInt8} : ∀ {a x : Bs}, c ∉ a → cutAt c (a ++ c :: x) = (a, x)
  | [], x, _ => by simp [cutAt]
  | d :: a, x, h => by
    rw [List.cons_append, cutAt, if_neg (fun e => h (by rw [e]; simp)), cutAt_app (fun hm => h (List.mem_cons_of_mem _ hm))]
def decL (k : Nat) (line : Bs) : Option (Bs × Bs) :=
  let b := cutAt 64 (cutAt 32 line).2
  let d := cutAt 35 b.2
  if goodL b.1 d.1 = true ∧ k < 60 ∧ lineL k b.1 d.1 = line then some (b.1, d.1) else none
theorem decL_iff {k : Nat} {line c r : Bs} : decL k line = some (c, r) ↔ goodL c r = true ∧ k < 60 ∧ lineL k c r = line := by
  constructor
  · intro h
    unfold decL at h
    simp only at h
    split at h
    · rename_i h1
      injection h with h
      injection h with e1 e2
      rw [e1, e2] at h1
      exact h1
    · cases h
  · rintro ⟨h1, h2, h3⟩
    have hg := goodL_good h1
    unfold decL
    simp only
    have e1 : (cutAt 32 line).2 = c ++ 64 :: (r ++ 35 :: (Lib.decDigits (sumL (bodyL k c r)) ++ [10])) := by
      rw [← h3, line_eq, cutAt_app (nd (by decide))]
    have e2 : cutAt 64 (cutAt 32 line).2 = (c, r ++ 35 :: (Lib.decDigits (sumL (bodyL k c r)) ++ [10])) := by
      rw [e1, cutAt_app hg.at_]
    have e3 : (cutAt 35 (cutAt 64 (cutAt 32 line).2).2).1 = r := by
      rw [e2]
      simp only
      rw [cutAt_app (nk hg.orr (by decide))]
    rw [e3, e2, if_pos ⟨h1, h2, h3⟩]
theorem decL_none {k : Nat} {line : Bs} (h : ∀ c r, goodL c r = true → k < 60 → lineL k c r ≠ line) : decL k line = none := by
  cases e : decL k line with
  | none => rfl
  | some p =>
    obtain ⟨c, r⟩ := p
    obtain ⟨h1, h2, h3⟩ := decL_iff.1 e
    exact absurd h3 (h c r h1 h2)

/-! ## reading -/
def stepL (k : Nat) (s : Bs) : Option ((Bs × Bs) × Nat) :=
  if Lib.indexByte s 10 < 0 then none else (decL k (s.take ((Lib.indexByte s 10).toNat + 1))).map fun e => (e, (Lib.indexByte s 10).toNat + 1)
def readL : Nat → Nat → Bs → List ((Bs × Bs) × Nat)
  | 0, _, _ => []
  | f + 1, k, s => match stepL k s with
    | none => []
    | some p => p :: readL f (k + 1) (s.drop p.2)
theorem indexByte_lt : ∀ (s : Bs) (c : UInt8), Lib.indexByte s c < s.length ∨ Lib.indexByte s c = -1
  | [], c => .inr rfl
  | x :: l, c => by
    have ih := indexByte_lt l c
    unfold Lib.indexByte
    simp only [List.length_cons]
    split
    · left; omega
    · split
      · right; rfl
      · left; rcases ih with h | h
        · omega
        · rename_i h1; simp [h] at h1
theorem indexByte_app {c : UInt8} : ∀ {a x : Bs}, c ∉ a → Lib.indexByte (a ++ c :: x) c = a.length
  | [], x, _ => by simp [Lib.indexByte]
  | d :: a, x, h => by
    have hd : (d == c) = false := by
      rw [beq_eq_false_iff_ne]
      exact fun e => h (by rw [e]; simp)
    rw [List.cons_append, Lib.indexByte, hd, indexByte_app (fun hm => h (List.mem_cons_of_mem _ hm))]
    have : ((a.length : Int) == -1) = false := by rw [beq_eq_false_iff_ne]; omega
    simp [this]
theorem step_some {k : Nat} {s c r : Bs} {m : Nat} : stepL k s = some ((c, r), m) ↔ goodL c r = true ∧ k < 60 ∧ m = (lineL k c r).length ∧ ∃ t, s = lineL k c r ++ t := by
  constructor
  · intro h
    unfold stepL at h
    split at h
    · cases h
    · rename_i h0
      cases e : decL k (s.take ((Lib.indexByte s 10).toNat + 1)) with
      | none => rw [e] at h; cases h
      | some p =>
        rw [e] at h
        simp only [Option.map_some, Option.some.injEq, Prod.mk.injEq] at h
        obtain ⟨rfl, rfl⟩ := h
        obtain ⟨h1, h2, h3⟩ := decL_iff.1 e
        refine ⟨h1, h2, ?_, s.drop ((Lib.indexByte s 10).toNat + 1), ?_⟩
        · have hl := congrArg List.length h3
          rw [List.length_take] at hl
          have hlt := indexByte_lt s 10
          omega
        · rw [h3, List.take_append_drop]
  · rintro ⟨h1, h2, rfl, t, rfl⟩
    have hg := goodL_good h1
    have hno := seal_no (body_no (k := k) hg).2
    have hi : Lib.indexByte (lineL k c r ++ t) 10 = ((sealL (bodyL k c r)).length : Int) := by
      have : lineL k c r ++ t = sealL (bodyL k c r) ++ 10 :: t := by simp [lineL]
      rw [this]
      exact indexByte_app hno
    unfold stepL
    have hll : (sealL (bodyL k c r)).length + 1 = (lineL k c r).length := by simp [lineL]
    rw [hi, if_neg (by omega), Int.toNat_natCast, hll, List.take_append_of_le_length (Nat.le_refl _), List.take_length, decL_iff.2 ⟨h1, h2, rfl⟩]
    rfl

/-- The text of records from number k on. -/
def linesL : Nat → List (Bs × Bs) → Bs
  | _, [] => []
  | k, e :: l => lineL k e.1 e.2 ++ linesL (k + 1) l
def AllGood (es : List (Bs × Bs)) : Prop := ∀ e ∈ es, goodL e.1 e.2 = true
theorem linesL_app : ∀ (k : Nat) (a b : List (Bs × Bs)), linesL k (a ++ b) = linesL k a ++ linesL (k + a.length) b
  | k, [], b => by simp [linesL]
  | k, e :: a, b => by
    rw [List.cons_append, linesL, linesL, linesL_app (k + 1) a b, List.append_assoc, List.length_cons]
    congr 3
    omega
def recsOf (l : List ((Bs × Bs) × Nat)) : List (Bs × Bs) := l.map (·.1)
def endOf (l : List ((Bs × Bs) × Nat)) : Nat := (l.map (·.2)).sum
theorem line_pos (k : Nat) (c r : Bs) : 0 < (lineL k c r).length := by simp [lineL]
/-- What was read, and what is left. -/
theorem read_split : ∀ (f k : Nat) (s : Bs), AllGood (recsOf (readL f k s)) ∧ (readL f k s).length ≤ f ∧ ((readL f k s) ≠ [] → k + (readL f k s).length ≤ 60) ∧ endOf (readL f k s) = (linesL k (recsOf (readL f k s))).length ∧ ∃ t, s = linesL k (recsOf (readL f k s)) ++ t ∧ ((readL f k s).length = f ∨ stepL (k + (readL f k s).length) t = none)
  | 0, k, s => ⟨fun e he => by simp [readL, recsOf] at he, Nat.le_refl _, fun h => absurd rfl h, rfl, s, by simp [readL, recsOf, linesL]⟩
  | f + 1, k, s => by
    cases e : stepL k s with
    | none =>
      have hr : readL (f + 1) k s = [] := by rw [readL, e]
      rw [hr]
      exact ⟨fun x hx => by simp [recsOf] at hx, Nat.zero_le _, fun h => absurd rfl h, rfl, s, by simp [recsOf, linesL], .inr e⟩
    | some p =>
      obtain ⟨⟨c, r⟩, m⟩ := p
      obtain ⟨h1, h2, rfl, t, rfl⟩ := step_some.1 e
      have hd : (lineL k c r ++ t).drop (lineL k c r).length = t := by simp
      have hr : readL (f + 1) k (lineL k c r ++ t) = ((c, r), (lineL k c r).length) :: readL f (k + 1) t := by rw [readL, e]; simp only [hd]
      obtain ⟨i1, i2, i3, i4, t', i5, i6⟩ := read_split f (k + 1) t
      rw [hr]
      refine ⟨?_, by simpa using i2, fun _ => ?_, ?_, t', ?_, ?_⟩
      · intro x hx
        rcases List.mem_cons.1 (by simpa [recsOf] using hx : x ∈ (c, r) :: recsOf (readL f (k + 1) t)) with rfl | hx
        · exact h1
        · exact i1 x hx
      · rw [List.length_cons]
        by_cases hn : readL f (k + 1) t = []
        · rw [hn]; simp; omega
        · have := i3 hn; omega
      · show (lineL k c r).length + endOf (readL f (k + 1) t) = (lineL k c r ++ linesL (k + 1) (recsOf (readL f (k + 1) t))).length
        rw [List.length_append, i4]
      · show lineL k c r ++ t = (lineL k c r ++ linesL (k + 1) (recsOf (readL f (k + 1) t))) ++ t'
        rw [List.append_assoc, ← i5]
      · rcases i6 with i6 | i6
        · left; simp [i6]
        · right
          rw [List.length_cons, show k + ((readL f (k + 1) t).length + 1) = k + 1 + (readL f (k + 1) t).length by omega]
          exact i6
/-- Reading back what was written. -/
theorem read_lines : ∀ (es : List (Bs × Bs)) (f k : Nat) (t : Bs), AllGood es → es.length ≤ f → k + es.length ≤ 60 →
    ∃ l, recsOf l = es ∧ endOf l = (linesL k es).length ∧ readL f k (linesL k es ++ t) = l ++ readL (f - es.length) (k + es.length) t
  | [], f, k, t, _, _, _ => ⟨[], rfl, rfl, by simp [linesL]⟩
  | e :: es, f, k, t, hg, hf, hk => by
    rw [List.length_cons] at hf hk
    obtain ⟨f, rfl⟩ : ∃ g, f = g + 1 := ⟨f - 1, by omega⟩
    obtain ⟨l, h1, h2, h3⟩ := read_lines es f (k + 1) t (fun x hx => hg x (List.mem_cons_of_mem _ hx)) (by omega) (by omega)
    have hs : stepL k (linesL k (e :: es) ++ t) = some ((e.1, e.2), (lineL k e.1 e.2).length) := step_some.2 ⟨hg e (by simp), by omega, rfl, linesL (k + 1) es ++ t, by rw [linesL, List.append_assoc]⟩
    refine ⟨((e.1, e.2), (lineL k e.1 e.2).length) :: l, by show (e.1, e.2) :: recsOf l = _; rw [h1], by show _ + endOf l = _; rw [h2, linesL, List.length_append], ?_⟩
    rw [readL, hs]
    have hd : (linesL k (e :: es) ++ t).drop (lineL k e.1 e.2).length = linesL (k + 1) es ++ t := by rw [linesL, List.append_assoc]; simp
    simp only [hd, List.length_cons, List.cons_append]
    rw [h3]
    congr 3 <;> omega
theorem lines_len {k : Nat} {es : List (Bs × Bs)} (hg : AllGood es) (hk : k + es.length ≤ 60) : (linesL k es).length ≤ 372 * es.length := by
  induction es generalizing k with
  | nil => simp [linesL]
  | cons e es ih =>
    rw [List.length_cons] at hk
    have := line_len (k := k) (by omega) (goodL_good (hg e (by simp)))
    have := ih (k := k + 1) (fun x hx => hg x (List.mem_cons_of_mem _ hx)) (by omega)
    rw [linesL, List.length_append, List.length_cons]
    omega
/-- All that is read of a text. -/
def readAll (s : Bs) : List ((Bs × Bs) × Nat) := readL 60 0 s
/-- The places behind the records. -/
def endsFrom : Nat → List ((Bs × Bs) × Nat) → List Nat
  | at_, [] => [at_]
  | at_, e :: l => at_ :: endsFrom (at_ + e.2) l
def endsL (s : Bs) : List Nat := endsFrom 0 (readAll s)
theorem endsFrom_mem : ∀ {l : List ((Bs × Bs) × Nat)} {a x : Nat}, x ∈ endsFrom a l ↔ ∃ j, j ≤ l.length ∧ x = a + endOf (l.take j)
  | [], a, x => by
    simp only [endsFrom, List.mem_singleton]
    constructor
    · rintro rfl; exact ⟨0, Nat.le_refl _, rfl⟩
    · rintro ⟨j, hj, rfl⟩; simp [endOf]
  | e :: l, a, x => by
    simp only [endsFrom, List.mem_cons, endsFrom_mem (l := l)]
    constructor
    · rintro (rfl | ⟨j, hj, rfl⟩)
      · exact ⟨0, Nat.zero_le _, rfl⟩
      · exact ⟨j + 1, by simpa using hj, by simp [endOf]; omega⟩
    · rintro ⟨j, hj, rfl⟩
      cases j with
      | zero => left; rfl
      | succ j => right; exact ⟨j, by simpa using hj, by simp [endOf]; omega⟩
/-- The program's test of a log. -/
def validP (d p : Bs) (n : Int) : Prop := endOf (readAll (d ++ p)) = (d ++ p).length ∧ d.length ∈ endsL (d ++ p) ∧ n = (readAll (d ++ p)).length
/-- The reference's test of a log. -/
def validS (d p : Bs) (n : Int) : Prop := d.length + p.length ≤ 30000 ∧ endOf (readAll (d ++ p)) = d.length + p.length ∧ endOf (readAll d) = d.length ∧ ((readAll (d ++ p)).length : Int) = n
theorem readAll_split (s : Bs) : AllGood (recsOf (readAll s)) ∧ (readAll s).length ≤ 60 ∧ endOf (readAll s) = (linesL 0 (recsOf (readAll s))).length ∧ ∃ t, s = linesL 0 (recsOf (readAll s)) ++ t := by
  obtain ⟨h1, h2, -, h4, t, h5, -⟩ := read_split 60 0 s
  exact ⟨h1, h2, h4, t, h5⟩
theorem readAll_whole {s : Bs} (h : endOf (readAll s) = s.length) : s = linesL 0 (recsOf (readAll s)) := by
  obtain ⟨h1, h2, h3, t, h4⟩ := readAll_split s
  have : t = [] := by
    apply List.eq_nil_of_length_eq_zero
    have := congrArg List.length h4
    rw [List.length_append] at this
    omega
  rw [this, List.append_nil] at h4
  exact h4
theorem step_nil (k : Nat) : stepL k [] = none := rfl
theorem readL_nil (f k : Nat) : readL f k [] = [] := by
  cases f with
  | zero => rfl
  | succ f => rw [readL, step_nil]
theorem readAll_lines {es : List (Bs × Bs)} (hg : AllGood es) (hn : es.length ≤ 60) : recsOf (readAll (linesL 0 es)) = es ∧ endOf (readAll (linesL 0 es)) = (linesL 0 es).length := by
  obtain ⟨l, h1, h2, h3⟩ := read_lines es 60 0 [] hg hn (by omega)
  rw [List.append_nil, readL_nil, List.append_nil] at h3
  exact ⟨by unfold readAll; rw [h3, h1], by unfold readAll; rw [h3, h2]⟩
theorem recsOf_len (l : List ((Bs × Bs) × Nat)) : (recsOf l).length = l.length := by simp [recsOf]
theorem recsOf_take (l : List ((Bs × Bs) × Nat)) (j : Nat) : recsOf (l.take j) = (recsOf l).take j := by simp [recsOf, List.map_take]
/-- Any beginning of what was read is what the beginning of the text reads as. -/
theorem read_take {f k : Nat} {s : Bs} {j : Nat} (hj : j ≤ (readL f k s).length) : endOf ((readL f k s).take j) = (linesL k ((recsOf (readL f k s)).take j)).length := by
  induction j generalizing f k s with
  | zero => simp [endOf, linesL]
  | succ j ih =>
    cases f with
    | zero => simp [readL] at hj
    | succ f =>
      cases e : stepL k s with
      | none => rw [readL, e] at hj; simp at hj
      | some p =>
        obtain ⟨⟨c, r⟩, m⟩ := p
        obtain ⟨h1, h2, rfl, t, rfl⟩ := step_some.1 e
        have hd : (lineL k c r ++ t).drop (lineL k c r).length = t := by simp
        have hr : readL (f + 1) k (lineL k c r ++ t) = ((c, r), (lineL k c r).length) :: readL f (k + 1) t := by rw [readL, e]; simp only [hd]
        rw [hr] at hj ⊢
        have := ih (f := f) (k := k + 1) (s := t) (by simpa using hj)
        show (lineL k c r).length + endOf ((readL f (k + 1) t).take j) = (lineL k c r ++ linesL (k + 1) ((recsOf (readL f (k + 1) t)).take j)).length
        rw [List.length_append, this]
theorem valid_iff {d p : Bs} {n : Int} : validP d p n ↔ validS d p n := by
  constructor
  · rintro ⟨h1, h2, h3⟩
    have hs := readAll_split (d ++ p)
    have hw := readAll_whole h1
    refine ⟨?_, by rw [h1, List.length_append], ?_, h3.symm⟩
    · have := lines_len (k := 0) hs.1 (by rw [recsOf_len]; have := hs.2.1; omega)
      rw [← hw, recsOf_len, List.length_append] at this
      have := hs.2.1
      omega
    · unfold endsL at h2
      obtain ⟨j, hj, hjd⟩ := endsFrom_mem.1 h2
      rw [Nat.zero_add] at hjd
      have ht := read_take (f := 60) (k := 0) (s := d ++ p) hj
      have hd : d = linesL 0 ((recsOf (readAll (d ++ p))).take j) := by
        have h4 : linesL 0 (recsOf (readAll (d ++ p))) = linesL 0 ((recsOf (readAll (d ++ p))).take j) ++ linesL (0 + ((recsOf (readAll (d ++ p))).take j).length) ((recsOf (readAll (d ++ p))).drop j) := by
          rw [← linesL_app, List.take_append_drop]
        have h5 : d ++ p = linesL 0 ((recsOf (readAll (d ++ p))).take j) ++ linesL (0 + ((recsOf (readAll (d ++ p))).take j).length) ((recsOf (readAll (d ++ p))).drop j) := by
          rw [← h4]; exact hw
        have hl : d.length = (linesL 0 ((recsOf (readAll (d ++ p))).take j)).length := hjd.trans ht
        exact (List.append_inj h5 hl).1
      have hgt : AllGood ((recsOf (readAll (d ++ p))).take j) := fun x hx => hs.1 x (List.mem_of_mem_take hx)
      have hlt : ((recsOf (readAll (d ++ p))).take j).length ≤ 60 := by
        rw [List.length_take, recsOf_len]; have := hs.2.1; omega
      have := (readAll_lines hgt hlt).2
      rw [← hd] at this
      exact this
  · rintro ⟨h1, h2, h3, h4⟩
    have h2' : endOf (readAll (d ++ p)) = (d ++ p).length := by rw [h2, List.length_append]
    refine ⟨h2', ?_, h4.symm⟩
    have hd := readAll_whole h3
    have hsd := readAll_split d
    obtain ⟨l, i1, i2, i3⟩ := read_lines (recsOf (readAll d)) 60 0 p hsd.1 (by rw [recsOf_len]; exact hsd.2.1) (by rw [recsOf_len]; have := hsd.2.1; omega)
    rw [← hd] at i3 i2
    unfold endsL
    rw [endsFrom_mem]
    refine ⟨l.length, by unfold readAll; rw [i3]; simp, ?_⟩
    unfold readAll
    rw [i3, List.take_append_of_le_length (Nat.le_refl _), List.take_length, Nat.zero_add, i2]
end Go.Proofs.YteogfjddkaodkaaDoor
