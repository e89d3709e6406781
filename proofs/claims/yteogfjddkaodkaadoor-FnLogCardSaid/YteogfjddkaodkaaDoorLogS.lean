
/- Plain law: pieces of a text between bytes; the reference's and the program's decoding of a line. -/
import Derived.Test.YteogfjddkaodkaaDoorLogL
namespace Go.Proofs.YteogfjddkaodkaaDoor

def splitL (b : UInt8) : Bs → List Bs
  | [] => [[]]
  | x :: l => if x = b then [] :: splitL b l else match splitL b l with
    | [] => [[x]]
    | p :: ps => (x :: p) :: ps
theorem splitL_no {b : UInt8} : ∀ {l : Bs}, b ∉ l → splitL b l = [l]
  | [], _ => rfl
  | x :: l, h => by
    rw [splitL, if_neg (fun e => h (by rw [e]; simp)), splitL_no (fun hm => h (List.mem_cons_of_mem _ hm))]
theorem splitL_app {b : UInt8} : ∀ {a x : Bs}, b ∉ a → splitL b (a ++ b :: x) = a :: splitL b x
  | [], x, _ => by rw [List.nil_append, splitL, if_pos rfl]
  | d :: a, x, h => by
    rw [List.cons_append, splitL, if_neg (fun e => h (by rw [e]; simp)), splitL_app (fun hm => h (List.mem_cons_of_mem _ hm))]
theorem split_at {b : UInt8} : ∀ (l : Bs), b ∈ l → ∃ a x, l = a ++ b :: x ∧ b ∉ a
  | [], h => by simp at h
  | d :: l, h => by
    by_cases hd : d = b
    · exact ⟨[], l, by rw [hd]; rfl, by simp⟩
    · rcases List.mem_cons.1 h with rfl | h
      · exact absurd rfl hd
      · obtain ⟨a, x, e, hn⟩ := split_at l h
        exact ⟨d :: a, x, by rw [e]; rfl, fun hm => by
          rcases List.mem_cons.1 hm with e | hm
          · exact hd e.symm
          · exact hn hm⟩
theorem cutAt_no {b : UInt8} : ∀ {l : Bs}, b ∉ l → cutAt b l = (l, [])
  | [], _ => rfl
  | x :: l, h => by rw [cutAt, if_neg (fun e => h (by rw [e]; simp)), cutAt_no (fun hm => h (List.mem_cons_of_mem _ hm))]
theorem split_pos (b : UInt8) (l : Bs) : 0 < (splitL b l).length := by
  by_cases h : b ∈ l
  · obtain ⟨a, x, rfl, hn⟩ := split_at l h
    rw [splitL_app hn]; simp
  · rw [splitL_no h]; simp
theorem split_first (b : UInt8) (l : Bs) : (splitL b l)[0]? = some (cutAt b l).1 := by
  by_cases h : b ∈ l
  · obtain ⟨a, x, rfl, hn⟩ := split_at l h
    rw [splitL_app hn, cutAt_app hn]; rfl
  · rw [splitL_no h, cutAt_no h]; rfl
theorem split_two (b : UInt8) (l : Bs) : 2 ≤ (splitL b l).length ↔ b ∈ l := by
  by_cases h : b ∈ l
  · obtain ⟨a, x, rfl, hn⟩ := split_at l h
    rw [splitL_app hn, List.length_cons]
    have := split_pos b x
    exact ⟨fun _ => h, fun _ => by omega⟩
  · rw [splitL_no h]
    exact ⟨fun h' => by simp at h', fun h' => absurd h' h⟩
theorem split_len (b : UInt8) : ∀ (l : Bs), (splitL b l).length ≤ l.length + 1
  | [] => by simp [splitL]
  | x :: l => by
    have ih := split_len b l
    rw [splitL]
    split
    · simp; omega
    · have hp := split_pos b l
      cases e : splitL b l with
      | nil => rw [e] at hp; simp at hp
      | cons p ps => rw [e] at ih; simp at ih ⊢; omega

theorem seal_cut {a : Bs} (h : (35 : UInt8) ∉ a) : cutAt 35 (sealL a) = (a, Lib.decDigits (sumL a)) := by unfold sealL; exact cutAt_app h
/-- What the reference's reading of a line says, and what the program's says. -/
def DecR (k : Nat) (line c r : Bs) (ok : Bool) : Prop := match decL k line with
  | some (c', r') => ok = true ∧ c = c' ∧ r = r'
  | none => ok = false
theorem DecR.yes {k : Nat} {line c r : Bs} (h1 : goodL c r = true) (h2 : k < 60) (h3 : lineL k c r = line) : DecR k line c r true := by
  unfold DecR; rw [decL_iff.2 ⟨h1, h2, h3⟩]; exact ⟨rfl, rfl, rfl⟩
theorem DecR.no {k : Nat} {line c r : Bs} (h : ∀ c r, goodL c r = true → k < 60 → lineL k c r ≠ line) : DecR k line c r false := by
  unfold DecR; rw [decL_none h]
/-- A line that is one: its parts. -/
theorem line_parts {k : Nat} {s c r : Bs} (hg : goodL c r = true) (h : lineL k c r = s ++ [10]) :
    (cutAt 35 s).1 = bodyL k c r ∧ (bodyL k c r).take (Lib.decDigits k ++ [32]).length = Lib.decDigits k ++ [32] ∧ (bodyL k c r).drop (Lib.decDigits k ++ [32]).length = c ++ 64 :: r ∧ cutAt 64 (c ++ 64 :: r) = (c, r) := by
  have hG := goodL_good hg
  have hs : s = sealL (bodyL k c r) := by
    unfold lineL at h
    exact (List.append_inj' h rfl).1.symm
  have hb : bodyL k c r = (Lib.decDigits k ++ [32]) ++ (c ++ 64 :: r) := by simp [bodyL]
  refine ⟨by rw [hs, seal_cut (body_no hG).1], ?_, ?_, cutAt_app hG.at_⟩
  · rw [hb, List.take_append_of_le_length (Nat.le_refl _), List.take_length]
  · rw [hb, List.drop_append_of_le_length (Nat.le_refl _), List.drop_length, List.nil_append]
/-- The reference: the text ahead of '#' does not begin with the number. -/
theorem read_no1 {k : Nat} {s c r : Bs} (h : ¬ ((Lib.decDigits k ++ [32]).length ≤ (cutAt 35 s).1.length ∧ (cutAt 35 s).1.take (Lib.decDigits k ++ [32]).length = Lib.decDigits k ++ [32])) : DecR k (s ++ [10]) c r false :=
  DecR.no fun c' r' hg _ he => by
    obtain ⟨h1, h2, -, -⟩ := line_parts hg he
    refine h ⟨?_, by rw [h1]; exact h2⟩
    rw [h1]
    have := congrArg List.length h2
    rw [List.length_take] at this
    omega
theorem read_no2 {k : Nat} {s rest c r : Bs} (hr : (cutAt 35 s).1.drop (Lib.decDigits k ++ [32]).length = rest) (h : (cutAt 64 rest).1.length = rest.length) : DecR k (s ++ [10]) c r false :=
  DecR.no fun c' r' hg _ he => by
    obtain ⟨h1, -, h3, h4⟩ := line_parts hg he
    rw [h1, h3] at hr
    rw [← hr, h4] at h
    simp at h
theorem read_no3 {k : Nat} {s rest c r : Bs} (hr : (cutAt 35 s).1.drop (Lib.decDigits k ++ [32]).length = rest) (hc : (cutAt 64 rest).1 = c) (hrr : rest.drop (c.length + 1) = r) (h : ¬ (goodL c r = true ∧ k < 60 ∧ lineL k c r = s ++ [10])) : DecR k (s ++ [10]) c r false :=
  DecR.no fun c' r' hg hk he => by
    obtain ⟨h1, -, h3, h4⟩ := line_parts hg he
    rw [h1, h3] at hr
    subst hr
    rw [h4] at hc
    simp only at hc
    subst hc
    have : r = r' := by rw [← hrr]; simp
    subst this
    exact h ⟨hg, hk, he⟩

/-! ## the program's decoding -/
/-- What VerifyChecksum answers: the text is t's seal; or of no short text without '#' at all. -/
def VerR (s t : Bs) (ok : Bool) : Prop := (ok = true → s = sealL t) ∧ (ok = false → ∀ a, (35 : UInt8) ∉ a → a.length ≤ 3000 → s ≠ sealL a)
theorem dec_no35 (u : Nat) : (35 : UInt8) ∉ Lib.decDigits u := nd (by decide)
/-- The last '#' of a seal stands behind the text. -/
theorem seal_last {s a : Bs} {i : Nat} (hs : s = sealL a) (hi : s[i]? = some 35) (hl : ∀ j, i < j → s[j]? ≠ some 35) : i = a.length := by
  subst hs
  have h0 : (sealL a)[a.length]? = some 35 := by unfold sealL; simp
  rcases Nat.lt_trichotomy i a.length with h | h | h
  · exact absurd h0 (hl _ h)
  · exact h
  · exfalso
    unfold sealL at hi
    rw [List.getElem?_append_right (by omega)] at hi
    obtain ⟨j, hj⟩ : ∃ j, i - a.length = j + 1 := ⟨i - a.length - 1, by omega⟩
    rw [hj, List.getElem?_cons_succ] at hi
    exact dec_no35 _ (List.mem_of_getElem? hi)
/-- A line of the program: trimmed, it is the seal of the body. -/
theorem trim_line {k : Nat} {c r : Bs} : Lib.trimSuffix (lineL k c r) [10] = sealL (bodyL k c r) := by
  unfold Lib.trimSuffix Lib.hasSuffix lineL
  have h : ([10] : Bs).isSuffixOf (sealL (bodyL k c r) ++ [10]) = true := by
    rw [List.isSuffixOf_iff_suffix]
    exact ⟨sealL (bodyL k c r), rfl⟩
  rw [if_pos h]
  simp
theorem body_cut {k : Nat} {c r : Bs} (hg : goodL c r = true) : cutAt 32 (bodyL k c r) = (Lib.decDigits k, c ++ 64 :: r) ∧ (32 : UInt8) ∈ bodyL k c r ∧ cutAt 64 (c ++ 64 :: r) = (c, r) ∧ (64 : UInt8) ∈ c ++ 64 :: r :=
  ⟨cutAt_app (nd (by decide)), by simp [bodyL], cutAt_app (goodL_good hg).at_, by simp⟩
theorem decode_no {k : Nat} {line t s c r : Bs} {ok : Bool} (hk : k < 60) (ht : Lib.trimSuffix line [10] = t) (hv : VerR t s ok)
    (h : ¬ (ok = true ∧ (32 : UInt8) ∈ s ∧ (64 : UInt8) ∈ (cutAt 32 s).2 ∧ goodL (cutAt 64 (cutAt 32 s).2).1 (cutAt 64 (cutAt 32 s).2).2 = true ∧ lineL k (cutAt 64 (cutAt 32 s).2).1 (cutAt 64 (cutAt 32 s).2).2 = line)) : DecR k line c r false :=
  DecR.no fun c' r' hg _ he => by
    have hG := goodL_good hg
    have e1 : t = sealL (bodyL k c' r') := by rw [← ht, ← he, trim_line]
    rcases ok with _ | _
    · exact hv.2 rfl (bodyL k c' r') (body_no hG).1 (by have := body_len hk hG; omega) e1
    · have e2 := hv.1 rfl
      rw [e1] at e2
      have e3 : cutAt 35 (sealL s) = (bodyL k c' r', Lib.decDigits (sumL (bodyL k c' r'))) := by rw [← e2, seal_cut (body_no hG).1]
      have e4 : s = bodyL k c' r' := by
        have hm : (35 : UInt8) ∉ s := fun hm => by
          obtain ⟨a, x, rfl, hn⟩ := split_at s hm
          have : sealL (a ++ 35 :: x) = a ++ 35 :: (x ++ 35 :: Lib.decDigits (sumL (a ++ 35 :: x))) := by simp [sealL]
          rw [this, cutAt_app hn] at e3
          have h5 := congrArg Prod.snd e3
          simp only at h5
          exact dec_no35 (sumL (bodyL k c' r')) (by rw [← h5]; simp)
        rw [seal_cut hm] at e3
        exact congrArg Prod.fst e3
      obtain ⟨f1, f2, f3, f4⟩ := body_cut (k := k) hg
      refine h ⟨rfl, by rw [e4]; exact f2, by rw [e4, f1]; exact f4, ?_, ?_⟩
      · rw [e4, f1]; simp only; rw [f3]; exact hg
      · rw [e4, f1]; simp only; rw [f3]; exact he
end Go.Proofs.YteogfjddkaodkaaDoor
