
/- Walks and plain laws of records and logs (joined by genlg.py out of the texts of the log family; a namespace of their own). -/
import Derived.Test.YtbonebpheimbaaaGreatDoorMem
import Derived.Test.YtbonebpheimbaaaGreatDoorProg
import Derived.Test.YtbonebpheimbaaaGreatDoorShelf
import Derived.Lib.ItoaNum
import Derived.Lib.ItoaMem
import Derived.Lib.IndexMore
import Derived.Lib.Strings
import Derived.Lib.AppendIntMem
import Derived.Sort.Grow
import Derived.Deep.RegionHeld3
import Derived.IntWalk
import Derived.Laws.Concat
import Derived.Deep.RegionWith
import Derived.Deep.DeepFit
namespace Go.Proofs.YtbonebpheimbaaaGreatDoor.Lg
open Go.RowKit

def okB (c : Int) : Bool := decide (32 ≤ c) && decide (c ≤ 126) && !(c == 35)
def allOk : List UInt8 → Bool
  | [] => true
  | c :: l => okB c.toNat && allOk l
def plainB (s : ByteArray) (m : Int) : Bool := allOk (bs s) && decide ((s.size : Int) ≤ m)
/-- Is the record (command, reply) a valid one? -/
def goodB (c r : ByteArray) : Bool := !(bs c).isEmpty && plainB c 160 && !(has 64 (bs c)) && plainB r 200
def inB (x a b : Int) : Bool := decide (a ≤ x) && decide (x ≤ b)

theorem inB_okB (c : UInt8) : okB c.toNat = (inB (wrap64 (c.toNat : Int)) 32 126 && !((c.toNat : Int) == 35)) := by
  rw [byte64]; rfl
theorem okB_lo {c : Int} (h : c < 32) : okB c = false := by unfold okB; simp; omega
theorem okB_hi {c : Int} (h : 126 < c) : okB c = false := by unfold okB; simp; omega
theorem okB_hash {c : Int} (h : (c == 35) = true) : okB c = false := by unfold okB; rw [h]; simp
theorem okB_yes {c : Int} (h1 : ¬ c < 32) (h2 : ¬ 126 < c) (h : (c == 35) = false) : okB c = true := by unfold okB; rw [h]; simp; omega
def AllAt (s : ByteArray) (k : Nat) : Prop := allOk ((bs s).drop k) = allOk (bs s)
theorem AllAt.start (s : ByteArray) : AllAt s 0 := rfl
theorem AllAt.step {s : ByteArray} {k : Nat} (h : AllAt s k) (hk : k < s.size) (ho : okB s[k].toNat = true) : AllAt s (k + 1) := by
  unfold AllAt at *; rw [drop_cons s k hk] at h; rw [← h]; simp [allOk, ho]
theorem AllAt.stop {s : ByteArray} {k : Nat} {m : Int} (h : AllAt s k) (hk : k < s.size) (ho : okB s[k].toNat = false) : false = plainB s m := by
  unfold AllAt at *; rw [drop_cons s k hk] at h; unfold plainB; rw [← h]; simp [allOk, ho]
theorem AllAt.done {s : ByteArray} {k : Nat} {m : Int} (h : AllAt s k) (hk : ¬ k < s.size) : decide ((s.size : Int) ≤ m) = plainB s m := by
  unfold AllAt at *; rw [drop_end s k hk] at h; unfold plainB; rw [← h]; rfl
theorem plainB_big {s : ByteArray} {m : Int} (h : ¬ (s.size : Int) ≤ m) : false = plainB s m := by unfold plainB; simp; omega
def HasAt (c : Int) (s : ByteArray) (k : Nat) : Prop := has c ((bs s).drop k) = has c (bs s)
theorem HasAt.start (c : Int) (s : ByteArray) : HasAt c s 0 := rfl
theorem HasAt.step {c : Int} {s : ByteArray} {k : Nat} (h : HasAt c s k) (hk : k < s.size) (ho : ((s[k].toNat : Int) == c) = false) : HasAt c s (k + 1) := by
  unfold HasAt at *; rw [drop_cons s k hk] at h; rw [← h]; simp [has, ho]
theorem HasAt.stop {c : Int} {s : ByteArray} {k : Nat} (h : HasAt c s k) (hk : k < s.size) (ho : ((s[k].toNat : Int) == c) = true) : true = has c (bs s) := by
  unfold HasAt at *; rw [drop_cons s k hk] at h; rw [← h]; simp [has, ho]
theorem HasAt.done {c : Int} {s : ByteArray} {k : Nat} (h : HasAt c s k) (hk : ¬ k < s.size) : false = has c (bs s) := by
  unfold HasAt at *; rw [drop_end s k hk] at h; rw [← h]; rfl

set_option maxHeartbeats 400000 in
theorem l1In_any (x a b : Int) (w : World) :
    Calls Tryz.prog 47 #[.int .i64 x, .int .i64 a, .int .i64 b] w fun e w' => e = .returned (.bool (inB x a b)) ∧ w = w' := by
  unfold inB
  by_cases h : a ≤ x
  all_goals
    go_enter Tryz.func47, Tryz.ntmps47
    go_wp2
    go_ret
    exact ⟨ret_bool (by simp; omega), rfl⟩

set_option maxHeartbeats 400000 in
theorem l33Plain_any (s : ByteArray) (m : Int) (w : World) (hs : s.size ≤ maxLen) :
    Calls Tryz.prog 155 #[.string s, .int .i64 m] w fun e w' => e = .returned (.bool (plainB s m)) ∧ w = w' := by
  unfold maxLen at hs
  go_enter Tryz.func155, Tryz.ntmps155
  go_wp2
  go_loop [5] (fun i => ∃ k : Nat, k ≤ s.size ∧ i = .int .i64 k ∧ AllAt s k) (fun i => s.size - (intOf i).toNat)
  case atStart => exact ⟨0, Nat.zero_le _, rfl, AllAt.start s⟩
  case round =>
    obtain ⟨k, hk, rfl, H⟩ := hrel
    by_cases hlt : k < s.size
    · have HS := Lib.hid (inB_okB s[k])
      go_wp2_with (go_at_call 47; refine (l1In_any _ _ _ _).mono ?_; rintro e w' ⟨rfl, rfl⟩)
      all_goals first
        | (go_ret
           exact ⟨ret_bool (H.stop hlt (by rw [HS.out]; simp [*])), rfl⟩)
        | (go_round
           case rel => exact ⟨k + 1, by omega, by go_num, H.step hlt (by rw [HS.out]; simp [*])⟩
           case measure => simp [intOf]; omega)
    · go_wp2
      go_ret
      exact ⟨ret_bool (H.done hlt), rfl⟩

set_option maxHeartbeats 400000 in
theorem l1Stands_any (s : ByteArray) (c : Int) (w : World) (hs : s.size ≤ maxLen) :
    Calls Tryz.prog 156 #[.string s, .int .u8 c] w fun e w' => e = .returned (.bool (has c (bs s))) ∧ w = w' := by
  unfold maxLen at hs
  go_enter Tryz.func156, Tryz.ntmps156
  go_wp2
  go_loop [5] (fun i => ∃ k : Nat, k ≤ s.size ∧ i = .int .i64 k ∧ HasAt c s k) (fun i => s.size - (intOf i).toNat)
  case atStart => exact ⟨0, Nat.zero_le _, rfl, HasAt.start c s⟩
  case round =>
    obtain ⟨k, hk, rfl, H⟩ := hrel
    by_cases hlt : k < s.size
    · go_wp2
      all_goals first
        | (go_ret
           exact ⟨ret_bool (H.stop hlt (by assumption)), rfl⟩)
        | (go_round
           case rel => exact ⟨k + 1, by omega, by go_num, H.step hlt (by assumption)⟩
           case measure => simp [intOf]; omega)
    · go_wp2
      go_ret
      exact ⟨ret_bool (H.done hlt), rfl⟩

set_option maxHeartbeats 400000 in
theorem isPlain_any (s : ByteArray) (m : Int) (w : World) (hs : s.size ≤ maxLen) :
    Calls Tryz.prog 176 #[.string s, .int .i64 m] w fun e w' => e = .returned (.bool (plainB s m)) ∧ w = w' := by
  unfold maxLen at hs
  by_cases hm : (s.size : Int) ≤ m
  · go_enter Tryz.func176, Tryz.ntmps176
    go_wp2
    go_loop [5] (fun i => ∃ k : Nat, k ≤ s.size ∧ i = .int .i64 k ∧ AllAt s k) (fun i => s.size - (intOf i).toNat)
    case atStart => exact ⟨0, Nat.zero_le _, rfl, AllAt.start s⟩
    case round =>
      obtain ⟨k, hk, rfl, H⟩ := hrel
      by_cases hlt : k < s.size
      · go_wp2
        all_goals first
          | (go_ret
             exact ⟨ret_bool (H.stop hlt (by first | exact okB_lo (by assumption) | exact okB_hi (by assumption) | exact okB_hash (by assumption))), rfl⟩)
          | (go_round
             case rel => exact ⟨k + 1, by omega, by go_num, H.step hlt (okB_yes (by assumption) (by assumption) (by assumption))⟩
             case measure => simp [intOf]; omega)
      · go_wp2
        go_ret
        exact ⟨ret_bool (by rw [← H.done hlt]; simp [hm]), rfl⟩
  · go_enter Tryz.func176, Tryz.ntmps176
    go_wp2
    go_ret
    exact ⟨ret_bool (plainB_big (by omega)), rfl⟩

def cmdB (s : ByteArray) : Bool := !(bs s).isEmpty && plainB s 160 && !(has 64 (bs s))
set_option maxHeartbeats 400000 in
theorem isCommand_any (s : ByteArray) (w : World) (hs : s.size ≤ maxLen) :
    Calls Tryz.prog 175 #[.string s] w fun e w' => e = .returned (.bool (cmdB s)) ∧ w = w' := by
  have hc := Lib.hid (has_indexByte 64 (bs s))
  rcases h1 : (bs s).isEmpty with _ | _
  · have h1' : s.toList.isEmpty = false := by rw [bs_empty, h1]
    rcases h2 : plainB s 160 with _ | _
    · go_enter Tryz.func175, Tryz.ntmps175
      go_wp2_with (go_at_call 176; refine (isPlain_any _ _ _ hs).mono ?_; rintro e w' ⟨rfl, rfl⟩)
      go_ret
      exact ⟨ret_bool (by unfold cmdB; simp [h2]), rfl⟩
    · go_enter Tryz.func175, Tryz.ntmps175
      go_wp2_with (first | (go_at_call 176; refine (isPlain_any _ _ _ hs).mono ?_; rintro e w' ⟨rfl, rfl⟩) | (go_at_call 172; refine (Tryz.strings_Contains_one _ _ _).mono ?_; rintro e w' ⟨rfl, rfl⟩))
      go_ret
      exact ⟨ret_bool (by unfold cmdB; rw [h1, h2]; exact congrArg (fun b => !b) hc.out), rfl⟩
  · have h1' : s.toList.isEmpty = true := by rw [bs_empty, h1]
    go_enter Tryz.func175, Tryz.ntmps175
    go_wp2
    go_ret
    exact ⟨ret_bool (by unfold cmdB; rw [h1]; rfl), rfl⟩

set_option maxHeartbeats 400000 in
theorem implValid_any (c r : ByteArray) (w : World) (hc : c.size ≤ maxLen) (hr : r.size ≤ maxLen) :
    Calls Tryz.prog 164 #[.agg #[.string c, .string r]] w (Bl w (.bool (goodB c r))) := by
  rcases h1 : cmdB c with _ | _
  all_goals
    go_enter Tryz.func164, Tryz.ntmps164
    go_wp2_with (first | (go_at_call 175; refine (isCommand_any _ _ hc).mono ?_; rintro e w' ⟨rfl, rfl⟩) | (go_at_call 176; refine (isPlain_any _ _ _ hr).mono ?_; rintro e w' ⟨rfl, rfl⟩))
    go_ret
    exact ⟨ret_bool (by unfold goodB; unfold cmdB at h1; rw [h1]; rfl), below_box _ _⟩

set_option maxHeartbeats 400000 in
theorem l33Good_any (c r : ByteArray) (w : World) (hc : c.size ≤ maxLen) (hr : r.size ≤ maxLen) :
    Calls Tryz.prog 133 #[.agg #[.string c, .string r]] w (Bl w (.bool (goodB c r))) := by
  rcases h1 : (bs c).isEmpty with _ | _
  · have h1' : c.toList.isEmpty = false := by rw [bs_empty, h1]
    rcases h2 : plainB c 160 with _ | _
    · go_enter Tryz.func133, Tryz.ntmps133
      go_wp2_with (go_at_call 155; refine (l33Plain_any _ _ _ hc).mono ?_; rintro e w' ⟨rfl, rfl⟩)
      go_ret
      exact ⟨ret_bool (by unfold goodB; simp [h2]), below_box _ _⟩
    · rcases h3 : has 64 (bs c) with _ | _
      all_goals
        go_enter Tryz.func133, Tryz.ntmps133
        go_wp2_with (first | (go_at_call 156; refine (l1Stands_any _ _ _ hc).mono ?_; rintro e w' ⟨rfl, rfl⟩) | (go_at_call 155; refine (l33Plain_any _ _ _ (by assumption)).mono ?_; rintro e w' ⟨rfl, rfl⟩))
        go_ret
        exact ⟨ret_bool (by unfold goodB; rw [h1, h2, h3]; rfl), below_box _ _⟩
  · have h1' : c.toList.isEmpty = true := by rw [bs_empty, h1]
    go_enter Tryz.func133, Tryz.ntmps133
    go_wp2
    go_ret
    exact ⟨ret_bool (by unfold goodB; rw [h1]; rfl), below_box _ _⟩

/-- What szLogRecord answers. -/
def recSize (c r : ByteArray) (left : Int) : Int := if left - c.size < 0 then -1 else if left - c.size - r.size < 0 then -1 else left - c.size - r.size
theorem recSize_ok {c r : ByteArray} {left : Int} (h : ¬ recSize c r left < 0) : (c.size : Int) + r.size ≤ left := by
  unfold recSize at h
  split at h
  · omega
  · split at h <;> omega

end Go.Proofs.YtbonebpheimbaaaGreatDoor.Lg
namespace Go.Proofs.YtbonebpheimbaaaGreatDoor.Lg

abbrev Bs := List UInt8
theorem u8_toNat {n : Nat} (h : n < 256) : (UInt8.ofNat n).toNat = n := by
  rw [UInt8.toNat_ofNat']
  exact Nat.mod_eq_of_lt h
theorem dec_digit (u : Nat) : ∀ c ∈ Lib.decDigits u, 48 ≤ c.toNat ∧ c.toNat ≤ 57 := by
  induction u using Nat.strongRecOn with
  | _ u ih =>
    intro c hc
    rw [Lib.decDigits] at hc
    split at hc
    · rw [List.mem_singleton] at hc
      subst hc
      rw [u8_toNat (by omega)]
      omega
    · rcases List.mem_append.1 hc with h | h
      · exact ih (u / 10) (by omega) c h
      · rw [List.mem_singleton] at h
        subst h
        rw [u8_toNat (by omega)]
        omega
def goodL (c r : Bs) : Bool := !c.isEmpty && (allOk c && decide ((c.length : Int) ≤ 160)) && !(has 64 c) && (allOk r && decide ((r.length : Int) ≤ 200))
theorem goodB_eq (c r : ByteArray) : goodB c r = goodL (bs c) (bs r) := rfl
theorem allOk_mem : ∀ {l : Bs}, allOk l = true → ∀ c ∈ l, 32 ≤ c.toNat ∧ c.toNat ≤ 126 ∧ c.toNat ≠ 35
  | [], _, c, h => by simp at h
  | x :: l, h, c, hc => by
    rw [allOk, Bool.and_eq_true] at h
    rcases List.mem_cons.1 hc with rfl | hc
    · have := h.1
      simp [okB] at this
      omega
    · exact allOk_mem h.2 c hc
theorem has_mem {c : UInt8} : ∀ {l : Bs}, has c.toNat l = true ↔ c ∈ l
  | [] => by simp [has]
  | x :: l => by
    rw [has, Bool.or_eq_true, has_mem (l := l), List.mem_cons, beq_iff_eq]
    constructor
    · rintro (h | h)
      · exact .inl (UInt8.toNat_inj.1 (by omega))
      · exact .inr h
    · rintro (h | h)
      · exact .inl (by rw [h])
      · exact .inr h
theorem has64 {l : Bs} : has 64 l = true ↔ (64 : UInt8) ∈ l := has_mem (c := 64)
structure Good (c r : Bs) : Prop where
  ne : c ≠ []
  lc : c.length ≤ 160
  lr : r.length ≤ 200
  oc : ∀ x ∈ c, 32 ≤ x.toNat ∧ x.toNat ≤ 126 ∧ x.toNat ≠ 35
  orr : ∀ x ∈ r, 32 ≤ x.toNat ∧ x.toNat ≤ 126 ∧ x.toNat ≠ 35
  at_ : (64 : UInt8) ∉ c
theorem goodL_good {c r : Bs} (h : goodL c r = true) : Good c r := by
  unfold goodL at h
  simp only [Bool.and_eq_true, Bool.not_eq_true', decide_eq_true_eq] at h
  obtain ⟨⟨⟨h1, h2, h3⟩, h4⟩, h5, h6⟩ := h
  refine ⟨fun e => by simp [e] at h1, by omega, by omega, allOk_mem h2, allOk_mem h5, fun hm => ?_⟩
  rw [has64.2 hm] at h4
  exact absurd h4 (by decide)

def bodyL (k : Nat) (c r : Bs) : Bs := Lib.decDigits k ++ 32 :: (c ++ 64 :: r)
def sumF (h : Nat) (c : UInt8) : Nat := (41 * h + c.toNat + 1) % 999979
def sumL (l : Bs) : Nat := l.foldl sumF 7
theorem sumF_lt (h : Nat) (c : UInt8) : sumF h c < 999979 := Nat.mod_lt _ (by decide)
theorem sumL_lt' : ∀ (l : Bs) (h : Nat), h < 999979 → l.foldl sumF h < 999979
  | [], _, h => h
  | _ :: l, _, _ => sumL_lt' l _ (sumF_lt _ _)
theorem sumL_lt (l : Bs) : sumL l < 999979 := sumL_lt' l 7 (by decide)
def sealL (l : Bs) : Bs := l ++ 35 :: Lib.decDigits (sumL l)
def lineL (k : Nat) (c r : Bs) : Bs := sealL (bodyL k c r) ++ [10]

theorem ndig_le {u : Nat} (h : u < 1000000) : Lib.nDigits u ≤ 6 := by
  rcases Nat.lt_or_ge u 10 with h1 | h1
  · rw [Lib.nDigits_small h1]; omega
  rw [Lib.nDigits_big (by omega)]
  rcases Nat.lt_or_ge (u / 10) 10 with h2 | h2
  · rw [Lib.nDigits_small h2]; omega
  rw [Lib.nDigits_big (by omega)]
  rcases Nat.lt_or_ge (u / 10 / 10) 10 with h3 | h3
  · rw [Lib.nDigits_small h3]; omega
  rw [Lib.nDigits_big (by omega)]
  rcases Nat.lt_or_ge (u / 10 / 10 / 10) 10 with h4 | h4
  · rw [Lib.nDigits_small h4]; omega
  rw [Lib.nDigits_big (by omega)]
  rcases Nat.lt_or_ge (u / 10 / 10 / 10 / 10) 10 with h5 | h5
  · rw [Lib.nDigits_small h5]; omega
  rw [Lib.nDigits_big (by omega), Lib.nDigits_small (by omega)]
  omega
theorem dec_len {u : Nat} (h : u < 1000000) : (Lib.decDigits u).length ≤ 6 := by rw [Lib.decDigits_length]; exact ndig_le h
theorem dec_len2 {u : Nat} (h : u < 100) : (Lib.decDigits u).length ≤ 2 := by
  rw [Lib.decDigits_length]
  rcases Nat.lt_or_ge u 10 with h1 | h1
  · rw [Lib.nDigits_small h1]; omega
  · rw [Lib.nDigits_big (by omega), Lib.nDigits_small (by omega)]; omega
theorem body_len {k : Nat} {c r : Bs} (hk : k < 60) (hg : Good c r) : (bodyL k c r).length ≤ 364 := by
  have := dec_len2 (u := k) (by omega)
  have := hg.lc
  have := hg.lr
  simp [bodyL]
  omega
theorem seal_len {l : Bs} : (sealL l).length ≤ l.length + 7 := by
  have := dec_len (u := sumL l) (by have := sumL_lt l; omega)
  simp [sealL]
  omega
theorem line_len {k : Nat} {c r : Bs} (hk : k < 60) (hg : Good c r) : (lineL k c r).length ≤ 372 := by
  have := body_len hk hg
  have := seal_len (l := bodyL k c r)
  simp [lineL]
  omega
theorem nd {c : UInt8} {u : Nat} (hc : ¬ (48 ≤ c.toNat ∧ c.toNat ≤ 57)) : c ∉ Lib.decDigits u := fun hm => hc (dec_digit u c hm)
theorem nk {c : UInt8} {l : Bs} (h : ∀ x ∈ l, 32 ≤ x.toNat ∧ x.toNat ≤ 126 ∧ x.toNat ≠ 35) (hc : ¬ (32 ≤ c.toNat ∧ c.toNat ≤ 126 ∧ c.toNat ≠ 35)) : c ∉ l := fun hm => hc (h c hm)
theorem body_no {k : Nat} {c r : Bs} (hg : Good c r) : (35 : UInt8) ∉ bodyL k c r ∧ (10 : UInt8) ∉ bodyL k c r := by
  unfold bodyL
  simp only [List.mem_append, List.mem_cons, not_or]
  refine ⟨⟨nd (by decide), by decide, nk hg.oc (by decide), by decide, nk hg.orr (by decide)⟩, ⟨nd (by decide), by decide, nk hg.oc (by decide), by decide, nk hg.orr (by decide)⟩⟩
theorem seal_no {l : Bs} (h : (10 : UInt8) ∉ l) : (10 : UInt8) ∉ sealL l := by
  unfold sealL
  simp only [List.mem_append, List.mem_cons, not_or]
  exact ⟨h, by decide, nd (by decide)⟩

theorem split_unique {c : UInt8} : ∀ {a b x y : Bs}, c ∉ a → c ∉ b → a ++ c :: x = b ++ c :: y → a = b ∧ x = y
  | [], [], _, _, _, _, h => by simpa using h
  | [], d :: b, _, _, _, hb, h => by
    simp at h
    exact absurd h.1 fun e => hb (by rw [e]; simp)
  | d :: a, [], _, _, ha, _, h => by
    simp at h
    exact absurd h.1 fun e => ha (by rw [e]; simp)
  | d :: a, e :: b, x, y, ha, hb, h => by
    simp only [List.cons_append, List.cons.injEq] at h
    obtain ⟨h1, h2⟩ := split_unique (fun hm => ha (List.mem_cons_of_mem _ hm)) (fun hm => hb (List.mem_cons_of_mem _ hm)) h.2
    exact ⟨by rw [h.1, h1], h2⟩
theorem line_eq (k : Nat) (c r : Bs) : lineL k c r = Lib.decDigits k ++ 32 :: (c ++ 64 :: (r ++ 35 :: (Lib.decDigits (sumL (bodyL k c r)) ++ [10]))) := by
  simp [lineL, sealL, bodyL]
theorem line_inj {k : Nat} {c r c' r' : Bs} (hg : Good c r) (hg' : Good c' r') (h : lineL k c r = lineL k c' r') : c = c' ∧ r = r' := by
  rw [line_eq, line_eq] at h
  have h1 := (List.append_cancel_left h)
  simp only [List.cons.injEq, true_and] at h1
  obtain ⟨h2, h3⟩ := split_unique hg.at_ hg'.at_ h1
  exact ⟨h2, (split_unique (nk hg.orr (by decide)) (nk hg'.orr (by decide)) h3).1⟩
theorem line_k {k k' : Nat} {c r c' r' : Bs} (h : lineL k c r = lineL k' c' r') : Lib.decDigits k = Lib.decDigits k' := by
  rw [line_eq, line_eq] at h
  exact (split_unique (nd (by decide)) (nd (by decide)) h).1
theorem dec_inj : ∀ {u v : Nat}, Lib.decDigits u = Lib.decDigits v → u = v := by
  intro u
  induction u using Nat.strongRecOn with
  | _ u ih =>
    intro v h
    rcases Nat.lt_or_ge u 10 with hu | hu <;> rcases Nat.lt_or_ge v 10 with hv | hv
    · rw [Lib.decDigits_one hu, Lib.decDigits_one hv] at h
      simp only [List.cons.injEq, and_true] at h
      have := congrArg UInt8.toNat h
      rw [u8_toNat (by omega), u8_toNat (by omega)] at this
      omega
    · have := congrArg List.length h
      rw [Lib.decDigits_length, Lib.decDigits_length, Lib.nDigits_small hu, Lib.nDigits_big (by omega)] at this
      have := Lib.nDigits_pos (v / 10)
      omega
    · have := congrArg List.length h
      rw [Lib.decDigits_length, Lib.decDigits_length, Lib.nDigits_small hv, Lib.nDigits_big (by omega)] at this
      have := Lib.nDigits_pos (u / 10)
      omega
    · rw [Lib.decDigits, dif_neg (by omega), Lib.decDigits.eq_def v, dif_neg (by omega)] at h
      obtain ⟨h1, h2⟩ := List.append_inj' h rfl
      have h3 := ih (u / 10) (by omega) h1
      simp only [List.cons.injEq, and_true] at h2
      have := congrArg UInt8.toNat h2
      rw [u8_toNat (by omega), u8_toNat (by omega)] at this
      omega

/-! ## decoding -/
/-- What stands before the first c, and behind it. -/
def cutAt (c : UInt8) : Bs → Bs × Bs
  | [] => ([], [])
  | x :: l => if x = c then ([], l) else (x :: (cutAt c l).1, (cutAt c l).2)
theorem cutAt_app {c : UInt8} : ∀ {a x : Bs}, c ∉ a → cutAt c (a ++ c :: x) = (a, x)
  | [], x, _ => by simp [cutAt]
  | d :: a, x, h => by
    rw [List.cons_append, cutAt, if_neg (fun e => h (by rw [e]; simp)), cutAt_app (fun hm => h (List.mem_cons_of_mem _ hm))]
def decL (k : Nat) (line : Bs) : Option (Bs × Bs) :=
  let b := cutAt 64 (cutAt 32 line).2
  let d := cutAt 35 b.2
  if goodL b.1 d.1 = true ∧ k < 60 ∧ lineL k b.1 d.1 = line then some (b.1, d.1) else none
theorem decL_iff {k : Nat} {line c r : Bs} : decL k line = some (c, r) ↔ goodL c r = true ∧ k < 60 ∧ lineL k c r = line := by
  constructor
  · intro h
    unfold decL at h
    simp only at h
    split at h
    · rename_i h1
      injection h with h
      injection h with e1 e2
      rw [e1, e2] at h1
      exact h1
    · cases h
  · rintro ⟨h1, h2, h3⟩
    have hg := goodL_good h1
    unfold decL
    simp only
    have e1 : (cutAt 32 line).2 = c ++ 64 :: (r ++ 35 :: (Lib.decDigits (sumL (bodyL k c r)) ++ [10])) := by
      rw [← h3, line_eq, cutAt_app (nd (by decide))]
    have e2 : cutAt 64 (cutAt 32 line).2 = (c, r ++ 35 :: (Lib.decDigits (sumL (bodyL k c r)) ++ [10])) := by
      rw [e1, cutAt_app hg.at_]
    have e3 : (cutAt 35 (cutAt 64 (cutAt 32 line).2).2).1 = r := by
      rw [e2]
      simp only
      rw [cutAt_app (nk hg.orr (by decide))]
    rw [e3, e2, if_pos ⟨h1, h2, h3⟩]
theorem decL_none {k : Nat} {line : Bs} (h : ∀ c r, goodL c r = true → k < 60 → lineL k c r ≠ line) : decL k line = none := by
  cases e : decL k line with
  | none => rfl
  | some p =>
    obtain ⟨c, r⟩ := p
    obtain ⟨h1, h2, h3⟩ := decL_iff.1 e
    exact absurd h3 (h c r h1 h2)

/-! ## reading -/
def stepL (k : Nat) (s : Bs) : Option ((Bs × Bs) × Nat) :=
  if Lib.indexByte s 10 < 0 then none else (decL k (s.take ((Lib.indexByte s 10).toNat + 1))).map fun e => (e, (Lib.indexByte s 10).toNat + 1)
def readL : Nat → Nat → Bs → List ((Bs × Bs) × Nat)
  | 0, _, _ => []
  | f + 1, k, s => match stepL k s with
    | none => []
    | some p => p :: readL f (k + 1) (s.drop p.2)
theorem indexByte_lt : ∀ (s : Bs) (c : UInt8), Lib.indexByte s c < s.length ∨ Lib.indexByte s c = -1
  | [], c => .inr rfl
  | x :: l, c => by
    have ih := indexByte_lt l c
    unfold Lib.indexByte
    simp only [List.length_cons]
    split
    · left; omega
    · split
      · right; rfl
      · left; rcases ih with h | h
        · omega
        · rename_i h1; simp [h] at h1
theorem indexByte_app {c : UInt8} : ∀ {a x : Bs}, c ∉ a → Lib.indexByte (a ++ c :: x) c = a.length
  | [], x, _ => by simp [Lib.indexByte]
  | d :: a, x, h => by
    have hd : (d == c) = false := by
      rw [beq_eq_false_iff_ne]
      exact fun e => h (by rw [e]; simp)
    rw [List.cons_append, Lib.indexByte, hd, indexByte_app (fun hm => h (List.mem_cons_of_mem _ hm))]
    have : ((a.length : Int) == -1) = false := by rw [beq_eq_false_iff_ne]; omega
    simp [this]
theorem step_some {k : Nat} {s c r : Bs} {m : Nat} : stepL k s = some ((c, r), m) ↔ goodL c r = true ∧ k < 60 ∧ m = (lineL k c r).length ∧ ∃ t, s = lineL k c r ++ t := by
  constructor
  · intro h
    unfold stepL at h
    split at h
    · cases h
    · rename_i h0
      cases e : decL k (s.take ((Lib.indexByte s 10).toNat + 1)) with
      | none => rw [e] at h; cases h
      | some p =>
        rw [e] at h
        simp only [Option.map_some, Option.some.injEq, Prod.mk.injEq] at h
        obtain ⟨rfl, rfl⟩ := h
        obtain ⟨h1, h2, h3⟩ := decL_iff.1 e
        refine ⟨h1, h2, ?_, s.drop ((Lib.indexByte s 10).toNat + 1), ?_⟩
        · have hl := congrArg List.length h3
          rw [List.length_take] at hl
          have hlt := indexByte_lt s 10
          omega
        · rw [h3, List.take_append_drop]
  · rintro ⟨h1, h2, rfl, t, rfl⟩
    have hg := goodL_good h1
    have hno := seal_no (body_no (k := k) hg).2
    have hi : Lib.indexByte (lineL k c r ++ t) 10 = ((sealL (bodyL k c r)).length : Int) := by
      have : lineL k c r ++ t = sealL (bodyL k c r) ++ 10 :: t := by simp [lineL]
      rw [this]
      exact indexByte_app hno
    unfold stepL
    have hll : (sealL (bodyL k c r)).length + 1 = (lineL k c r).length := by simp [lineL]
    rw [hi, if_neg (by omega), Int.toNat_natCast, hll, List.take_append_of_le_length (Nat.le_refl _), List.take_length, decL_iff.2 ⟨h1, h2, rfl⟩]
    rfl

/-- The text of records from number k on. -/
def linesL : Nat → List (Bs × Bs) → Bs
  | _, [] => []
  | k, e :: l => lineL k e.1 e.2 ++ linesL (k + 1) l
def AllGood (es : List (Bs × Bs)) : Prop := ∀ e ∈ es, goodL e.1 e.2 = true
theorem linesL_app : ∀ (k : Nat) (a b : List (Bs × Bs)), linesL k (a ++ b) = linesL k a ++ linesL (k + a.length) b
  | k, [], b => by simp [linesL]
  | k, e :: a, b => by
    rw [List.cons_append, linesL, linesL, linesL_app (k + 1) a b, List.append_assoc, List.length_cons]
    congr 3
    omega
def recsOf (l : List ((Bs × Bs) × Nat)) : List (Bs × Bs) := l.map (·.1)
def endOf (l : List ((Bs × Bs) × Nat)) : Nat := (l.map (·.2)).sum
theorem line_pos (k : Nat) (c r : Bs) : 0 < (lineL k c r).length := by simp [lineL]
/-- What was read, and what is left. -/
theorem read_split : ∀ (f k : Nat) (s : Bs), AllGood (recsOf (readL f k s)) ∧ (readL f k s).length ≤ f ∧ ((readL f k s) ≠ [] → k + (readL f k s).length ≤ 60) ∧ endOf (readL f k s) = (linesL k (recsOf (readL f k s))).length ∧ ∃ t, s = linesL k (recsOf (readL f k s)) ++ t ∧ ((readL f k s).length = f ∨ stepL (k + (readL f k s).length) t = none)
  | 0, k, s => ⟨fun e he => by simp [readL, recsOf] at he, Nat.le_refl _, fun h => absurd rfl h, rfl, s, by simp [readL, recsOf, linesL]⟩
  | f + 1, k, s => by
    cases e : stepL k s with
    | none =>
      have hr : readL (f + 1) k s = [] := by rw [readL, e]
      rw [hr]
      exact ⟨fun x hx => by simp [recsOf] at hx, Nat.zero_le _, fun h => absurd rfl h, rfl, s, by simp [recsOf, linesL], .inr e⟩
    | some p =>
      obtain ⟨⟨c, r⟩, m⟩ := p
      obtain ⟨h1, h2, rfl, t, rfl⟩ := step_some.1 e
      have hd : (lineL k c r ++ t).drop (lineL k c r).length = t := by simp
      have hr : readL (f + 1) k (lineL k c r ++ t) = ((c, r), (lineL k c r).length) :: readL f (k + 1) t := by rw [readL, e]; simp only [hd]
      obtain ⟨i1, i2, i3, i4, t', i5, i6⟩ := read_split f (k + 1) t
      rw [hr]
      refine ⟨?_, by simpa using i2, fun _ => ?_, ?_, t', ?_, ?_⟩
      · intro x hx
        rcases List.mem_cons.1 (by simpa [recsOf] using hx : x ∈ (c, r) :: recsOf (readL f (k + 1) t)) with rfl | hx
        · exact h1
        · exact i1 x hx
      · rw [List.length_cons]
        by_cases hn : readL f (k + 1) t = []
        · rw [hn]; simp; omega
        · have := i3 hn; omega
      · show (lineL k c r).length + endOf (readL f (k + 1) t) = (lineL k c r ++ linesL (k + 1) (recsOf (readL f (k + 1) t))).length
        rw [List.length_append, i4]
      · show lineL k c r ++ t = (lineL k c r ++ linesL (k + 1) (recsOf (readL f (k + 1) t))) ++ t'
        rw [List.append_assoc, ← i5]
      · rcases i6 with i6 | i6
        · left; simp [i6]
        · right
          rw [List.length_cons, show k + ((readL f (k + 1) t).length + 1) = k + 1 + (readL f (k + 1) t).length by omega]
          exact i6
/-- Reading back what was written. -/
theorem read_lines : ∀ (es : List (Bs × Bs)) (f k : Nat) (t : Bs), AllGood es → es.length ≤ f → k + es.length ≤ 60 →
    ∃ l, recsOf l = es ∧ endOf l = (linesL k es).length ∧ readL f k (linesL k es ++ t) = l ++ readL (f - es.length) (k + es.length) t
  | [], f, k, t, _, _, _ => ⟨[], rfl, rfl, by simp [linesL]⟩
  | e :: es, f, k, t, hg, hf, hk => by
    rw [List.length_cons] at hf hk
    obtain ⟨f, rfl⟩ : ∃ g, f = g + 1 := ⟨f - 1, by omega⟩
    obtain ⟨l, h1, h2, h3⟩ := read_lines es f (k + 1) t (fun x hx => hg x (List.mem_cons_of_mem _ hx)) (by omega) (by omega)
    have hs : stepL k (linesL k (e :: es) ++ t) = some ((e.1, e.2), (lineL k e.1 e.2).length) := step_some.2 ⟨hg e (by simp), by omega, rfl, linesL (k + 1) es ++ t, by rw [linesL, List.append_assoc]⟩
    refine ⟨((e.1, e.2), (lineL k e.1 e.2).length) :: l, by show (e.1, e.2) :: recsOf l = _; rw [h1], by show _ + endOf l = _; rw [h2, linesL, List.length_append], ?_⟩
    rw [readL, hs]
    have hd : (linesL k (e :: es) ++ t).drop (lineL k e.1 e.2).length = linesL (k + 1) es ++ t := by rw [linesL, List.append_assoc]; simp
    simp only [hd, List.length_cons, List.cons_append]
    rw [h3]
    congr 3 <;> omega
theorem lines_len {k : Nat} {es : List (Bs × Bs)} (hg : AllGood es) (hk : k + es.length ≤ 60) : (linesL k es).length ≤ 372 * es.length := by
  induction es generalizing k with
  | nil => simp [linesL]
  | cons e es ih =>
    rw [List.length_cons] at hk
    have := line_len (k := k) (by omega) (goodL_good (hg e (by simp)))
    have := ih (k := k + 1) (fun x hx => hg x (List.mem_cons_of_mem _ hx)) (by omega)
    rw [linesL, List.length_append, List.length_cons]
    omega
/-- All that is read of a text. -/
def readAll (s : Bs) : List ((Bs × Bs) × Nat) := readL 60 0 s
/-- The places behind the records. -/
def endsFrom : Nat → List ((Bs × Bs) × Nat) → List Nat
  | at_, [] => [at_]
  | at_, e :: l => at_ :: endsFrom (at_ + e.2) l
def endsL (s : Bs) : List Nat := endsFrom 0 (readAll s)
theorem endsFrom_mem : ∀ {l : List ((Bs × Bs) × Nat)} {a x : Nat}, x ∈ endsFrom a l ↔ ∃ j, j ≤ l.length ∧ x = a + endOf (l.take j)
  | [], a, x => by
    simp only [endsFrom, List.mem_singleton]
    constructor
    · rintro rfl; exact ⟨0, Nat.le_refl _, rfl⟩
    · rintro ⟨j, hj, rfl⟩; simp [endOf]
  | e :: l, a, x => by
    simp only [endsFrom, List.mem_cons, endsFrom_mem (l := l)]
    constructor
    · rintro (rfl | ⟨j, hj, rfl⟩)
      · exact ⟨0, Nat.zero_le _, rfl⟩
      · exact ⟨j + 1, by simpa using hj, by simp [endOf]; omega⟩
    · rintro ⟨j, hj, rfl⟩
      cases j with
      | zero => left; rfl
      | succ j => right; exact ⟨j, by simpa using hj, by simp [endOf]; omega⟩
/-- The program's test of a log. -/
def validP (d p : Bs) (n : Int) : Prop := endOf (readAll (d ++ p)) = (d ++ p).length ∧ d.length ∈ endsL (d ++ p) ∧ n = (readAll (d ++ p)).length
/-- The reference's test of a log. -/
def validS (d p : Bs) (n : Int) : Prop := d.length + p.length ≤ 30000 ∧ endOf (readAll (d ++ p)) = d.length + p.length ∧ endOf (readAll d) = d.length ∧ ((readAll (d ++ p)).length : Int) = n
theorem readAll_split (s : Bs) : AllGood (recsOf (readAll s)) ∧ (readAll s).length ≤ 60 ∧ endOf (readAll s) = (linesL 0 (recsOf (readAll s))).length ∧ ∃ t, s = linesL 0 (recsOf (readAll s)) ++ t := by
  obtain ⟨h1, h2, -, h4, t, h5, -⟩ := read_split 60 0 s
  exact ⟨h1, h2, h4, t, h5⟩
theorem readAll_whole {s : Bs} (h : endOf (readAll s) = s.length) : s = linesL 0 (recsOf (readAll s)) := by
  obtain ⟨h1, h2, h3, t, h4⟩ := readAll_split s
  have : t = [] := by
    apply List.eq_nil_of_length_eq_zero
    have := congrArg List.length h4
    rw [List.length_append] at this
    omega
  rw [this, List.append_nil] at h4
  exact h4
theorem step_nil (k : Nat) : stepL k [] = none := rfl
theorem readL_nil (f k : Nat) : readL f k [] = [] := by
  cases f with
  | zero => rfl
  | succ f => rw [readL, step_nil]
theorem readAll_lines {es : List (Bs × Bs)} (hg : AllGood es) (hn : es.length ≤ 60) : recsOf (readAll (linesL 0 es)) = es ∧ endOf (readAll (linesL 0 es)) = (linesL 0 es).length := by
  obtain ⟨l, h1, h2, h3⟩ := read_lines es 60 0 [] hg hn (by omega)
  rw [List.append_nil, readL_nil, List.append_nil] at h3
  exact ⟨by unfold readAll; rw [h3, h1], by unfold readAll; rw [h3, h2]⟩
theorem recsOf_len (l : List ((Bs × Bs) × Nat)) : (recsOf l).length = l.length := by simp [recsOf]
theorem recsOf_take (l : List ((Bs × Bs) × Nat)) (j : Nat) : recsOf (l.take j) = (recsOf l).take j := by simp [recsOf, List.map_take]
/-- Any beginning of what was read is what the beginning of the text reads as. -/
theorem read_take {f k : Nat} {s : Bs} {j : Nat} (hj : j ≤ (readL f k s).length) : endOf ((readL f k s).take j) = (linesL k ((recsOf (readL f k s)).take j)).length := by
  induction j generalizing f k s with
  | zero => simp [endOf, linesL]
  | succ j ih =>
    cases f with
    | zero => simp [readL] at hj
    | succ f =>
      cases e : stepL k s with
      | none => rw [readL, e] at hj; simp at hj
      | some p =>
        obtain ⟨⟨c, r⟩, m⟩ := p
        obtain ⟨h1, h2, rfl, t, rfl⟩ := step_some.1 e
        have hd : (lineL k c r ++ t).drop (lineL k c r).length = t := by simp
        have hr : readL (f + 1) k (lineL k c r ++ t) = ((c, r), (lineL k c r).length) :: readL f (k + 1) t := by rw [readL, e]; simp only [hd]
        rw [hr] at hj ⊢
        have := ih (f := f) (k := k + 1) (s := t) (by simpa using hj)
        show (lineL k c r).length + endOf ((readL f (k + 1) t).take j) = (lineL k c r ++ linesL (k + 1) ((recsOf (readL f (k + 1) t)).take j)).length
        rw [List.length_append, this]
theorem valid_iff {d p : Bs} {n : Int} : validP d p n ↔ validS d p n := by
  constructor
  · rintro ⟨h1, h2, h3⟩
    have hs := readAll_split (d ++ p)
    have hw := readAll_whole h1
    refine ⟨?_, by rw [h1, List.length_append], ?_, h3.symm⟩
    · have := lines_len (k := 0) hs.1 (by rw [recsOf_len]; have := hs.2.1; omega)
      rw [← hw, recsOf_len, List.length_append] at this
      have := hs.2.1
      omega
    · unfold endsL at h2
      obtain ⟨j, hj, hjd⟩ := endsFrom_mem.1 h2
      rw [Nat.zero_add] at hjd
      have ht := read_take (f := 60) (k := 0) (s := d ++ p) hj
      have hd : d = linesL 0 ((recsOf (readAll (d ++ p))).take j) := by
        have h4 : linesL 0 (recsOf (readAll (d ++ p))) = linesL 0 ((recsOf (readAll (d ++ p))).take j) ++ linesL (0 + ((recsOf (readAll (d ++ p))).take j).length) ((recsOf (readAll (d ++ p))).drop j) := by
          rw [← linesL_app, List.take_append_drop]
        have h5 : d ++ p = linesL 0 ((recsOf (readAll (d ++ p))).take j) ++ linesL (0 + ((recsOf (readAll (d ++ p))).take j).length) ((recsOf (readAll (d ++ p))).drop j) := by
          rw [← h4]; exact hw
        have hl : d.length = (linesL 0 ((recsOf (readAll (d ++ p))).take j)).length := hjd.trans ht
        exact (List.append_inj h5 hl).1
      have hgt : AllGood ((recsOf (readAll (d ++ p))).take j) := fun x hx => hs.1 x (List.mem_of_mem_take hx)
      have hlt : ((recsOf (readAll (d ++ p))).take j).length ≤ 60 := by
        rw [List.length_take, recsOf_len]; have := hs.2.1; omega
      have := (readAll_lines hgt hlt).2
      rw [← hd] at this
      exact this
  · rintro ⟨h1, h2, h3, h4⟩
    have h2' : endOf (readAll (d ++ p)) = (d ++ p).length := by rw [h2, List.length_append]
    refine ⟨h2', ?_, h4.symm⟩
    have hd := readAll_whole h3
    have hsd := readAll_split d
    obtain ⟨l, i1, i2, i3⟩ := read_lines (recsOf (readAll d)) 60 0 p hsd.1 (by rw [recsOf_len]; exact hsd.2.1) (by rw [recsOf_len]; have := hsd.2.1; omega)
    rw [← hd] at i3 i2
    unfold endsL
    rw [endsFrom_mem]
    refine ⟨l.length, by unfold readAll; rw [i3]; simp, ?_⟩
    unfold readAll
    rw [i3, List.take_append_of_le_length (Nat.le_refl _), List.take_length, Nat.zero_add, i2]
end Go.Proofs.YtbonebpheimbaaaGreatDoor.Lg
namespace Go.Proofs.YtbonebpheimbaaaGreatDoor.Lg
open Go.RowKit

def mk (l : Bs) : ByteArray := ⟨l.toArray⟩
theorem bs_of (l : Bs) : bs (mk l) = l := rfl
theorem mk_of (s : ByteArray) : mk (bs s) = s := bs_inj rfl
theorem mk_eq {s : ByteArray} {l : Bs} (h : bs s = l) : s = mk l := bs_inj h
theorem bs_app (a b : ByteArray) : bs (a ++ b) = bs a ++ bs b := by
  unfold bs
  rw [ByteArray.data_append, Array.toList_append]
theorem bs_ext (s : ByteArray) (i j : Nat) : bs (s.extract i j) = ((bs s).drop i).take (j - i) := Lib.extract_data s i j
theorem size_bs (s : ByteArray) : s.size = (bs s).length := rfl
theorem size_mk (l : Bs) : (mk l).size = l.length := rfl
/-- A concatenation, as the walk meets it. -/
theorem cat (a b : ByteArray) (h : a.size + b.size ≤ 1099511627776) : ∀ w, (Op.stringOp .add a b).run Tryz.prog w = .ok (.string (a ++ b)) w := fun w => run_string_add_sum w a b (by omega)
theorem size_app (a b : ByteArray) : (a ++ b).size = a.size + b.size := by rw [size_bs, bs_app, List.length_append]; rfl
theorem keepc {w w' : World} {p : Addr} {v : Value} (hb : Below w.heap.size w w') (h : w.cell? p = some v) : w'.cell? p = some v := (hb.cell (cell_lt h)).trans h

/-- The library's table of powers of ten reads as its initialiser lays it. -/
def Tab (w : World) : Prop := Lib.TabIs Tryz.prog w "internal/strconv.uint64pow10" .u64 Lib.pow10Tab
theorem Tab.next {w w' : World} (h : Tab w) (hb : Below w.heap.size w w') : Tab w' := (Lib.tabBelow_of_tabIs h) w' hb
theorem Tab.drewN {w : World} (h : Tab w) (n : Nat) : Tab (w.drewN n) := h.next (below_drewN (Below.refl _ _) _)
theorem below_grow (w : World) (os : Array Obj) (k : Nat) : Below w.heap.size w (Sort.grow (w.drewN k) os) := by
  refine ⟨rfl, rfl, rfl, ?_, fun i hi => ?_⟩
  · show w.heap.size ≤ (w.heap ++ os).size
    rw [Array.size_append]; omega
  · show (w.heap ++ os)[i]? = w.heap[i]?
    rw [Array.getElem?_append_left hi]

theorem itoa_any (n : Nat) (hn : n < 9223372036854775807) (w : World) (ht : Tab w) :
    Calls Tryz.prog 27 #[.int .i64 n] w (Bl w (.string (mk (Lib.decDigits n)))) := by
  refine (Tryz.strconv_Itoa (n : Int) (by omega) (by omega) w ht).mono fun _ _ ⟨he, k, os, hw⟩ => ⟨?_, ?_⟩
  · rw [he, Lib.itoa_nonneg]; rfl
  · rw [hw]; exact below_grow _ _ _
theorem itoa_small (n : Nat) (hn : n < 100) (w : World) :
    Calls Tryz.prog 27 #[.int .i64 n] w (Qt w (.string (mk (Lib.decDigits n)))) :=
  (Tryz.strconv_Itoa_small n hn w).mono fun _ _ ⟨he, hw⟩ => ⟨he, 0, hw⟩

/-! ## the reference's numeral -/
theorem digit_piece {i : Nat} (h : i < 10) : ((([48, 49, 50, 51, 52, 53, 54, 55, 56, 57] : Bs).drop i).take (i + 1 - i)) = [UInt8.ofNat (48 + i)] := by
  have : ∀ i : Fin 10, ((([48, 49, 50, 51, 52, 53, 54, 55, 56, 57] : Bs).drop i.val).take (i.val + 1 - i.val)) = [UInt8.ofNat (48 + i.val)] := by decide
  exact this ⟨i, h⟩
theorem num_small {n : Nat} (h : n < 10) : (⟨#[48, 49, 50, 51, 52, 53, 54, 55, 56, 57]⟩ : ByteArray).extract n (n + 1) = mk (Lib.decDigits n) := by
  apply mk_eq
  rw [bs_ext, Lib.decDigits_one h]
  exact digit_piece h
theorem num_big {n : Nat} (h : ¬ n < 10) : mk (Lib.decDigits (n / 10)) ++ (⟨#[48, 49, 50, 51, 52, 53, 54, 55, 56, 57]⟩ : ByteArray).extract (n % 10) (n % 10 + 1) = mk (Lib.decDigits n) := by
  apply mk_eq
  rw [bs_app, bs_ext, bs_of, Lib.decDigits.eq_def n, dif_neg h]
  congr 1
  exact digit_piece (Nat.mod_lt _ (by decide))

set_option maxHeartbeats 1000000 in
theorem l1Num_any (n : Nat) : ∀ (_hn : n < 1000000) (w : World), Calls Tryz.prog 23 #[.int .i64 n] w (Qt w (.string (mk (Lib.decDigits n)))) := by
  induction n using Nat.strongRecOn with
  | _ n ih =>
    intro hn w
    by_cases h10 : n < 10
    · have HD := Lib.hid (num_small h10)
      have hi0 : (0 : Int) ≤ (n : Int) := by omega
      have hi1 : (n : Int) < 10 := by omega
      clear ih
      go_enter Tryz.func23, Tryz.ntmps23
      go_wp2
      go_ret
      exact ⟨ret_str HD.out, 0, rfl⟩
    · have HD := Lib.hid (num_big h10)
      have hr := ih (n / 10) (by omega) (by omega)
      have hi0 : (10 : Int) ≤ (n : Int) := by omega
      have f1 : IntKind.i64.wrap ((n : Int) / 10) = (n : Int) / 10 := IntWalk.i64_in _ (by omega)
      have f2 : (n : Int).tmod 10 = (n : Int) % 10 := rfl
      have f3 : IntKind.i64.wrap ((n : Int) % 10 + 1) = (n : Int) % 10 + 1 := IntWalk.i64_in _ (by omega)
      have b0 : (0 : Int) ≤ (n : Int) % 10 := by omega
      have b1 : (n : Int) % 10 + 1 ≤ 10 := by omega
      have b2 : (n : Int) % 10 ≤ 9 := by omega
      have b3 : (n : Int) % 10 < 10 := by omega
      have b4 : (0 : Int) ≤ (n : Int) % 10 + 1 := by omega
      have b5 : (n : Int) % 10 + 1 ≤ ((⟨#[48, 49, 50, 51, 52, 53, 54, 55, 56, 57]⟩ : ByteArray).size : Int) := b1
      have hsl : ∀ w, (Instr.slice 9 (.string ⟨#[48, 49, 50, 51, 52, 53, 54, 55, 56, 57]⟩) (some (.int .i64 ((n : Int) % 10))) (some (.int .i64 ((n : Int) % 10 + 1))) none).run Tryz.prog w = .ok (.string ((⟨#[48, 49, 50, 51, 52, 53, 54, 55, 56, 57]⟩ : ByteArray).extract (n % 10) (n % 10 + 1))) w := fun w => by
        have := run_slice_string (P := Tryz.prog) (w := w) 9 ⟨#[48, 49, 50, 51, 52, 53, 54, 55, 56, 57]⟩ .i64 .i64 ((n : Int) % 10) ((n : Int) % 10 + 1) Tryz.underlying9 b0 (by omega) b1
        rw [this]
        have e1 : ((n : Int) % 10).toNat = n % 10 := by omega
        have e2 : ((n : Int) % 10 + 1).toNat = n % 10 + 1 := by omega
        rw [e1, e2]
      have hr' : ∀ w, Calls Tryz.prog 23 #[.int .i64 ((n : Int) / 10)] w (Qt w (.string (mk (Lib.decDigits (n / 10))))) := hr
      have kc := cat (mk (Lib.decDigits (n / 10))) ((⟨#[48, 49, 50, 51, 52, 53, 54, 55, 56, 57]⟩ : ByteArray).extract (n % 10) (n % 10 + 1)) (by
        have h1 := dec_len (u := n / 10) (by omega)
        rw [size_mk, size_bs, bs_ext, List.length_take]
        omega)
      clear ih h10
      go_enter Tryz.func23, Tryz.ntmps23
      go_wp2
      go_quiet ((go_at_call 23; (first | exact quiet_one (hr' _) | exact quiet_add (hr' _))))
      go_wp2
      go_ret
      exact ⟨ret_str HD.out, (by first | exact Drawn.zero _ | exact Drawn.at_ _ _ | exact (Drawn.at_ _ _).more _ | exact ((Drawn.at_ _ _).more _).more _)⟩

theorem ret_ib {k : IntKind} {a b : Int} {c d : Bool} (h : a = b) (h' : c = d) : Ending.returned (.tuple #[.int k a, .bool c]) = .returned (.tuple #[.int k b, .bool d]) := by rw [h, h']
theorem ret_sb {a b : ByteArray} {c d : Bool} (h : a = b) (h' : c = d) : Ending.returned (.tuple #[.string a, .bool c]) = .returned (.tuple #[.string b, .bool d]) := by rw [h, h']
/-! ## checksums -/
def SumAt (s : ByteArray) (k h : Nat) : Prop := ((bs s).drop k).foldl sumF h = sumL (bs s)
theorem SumAt.step {s : ByteArray} {k h : Nat} (H : SumAt s k h) (hk : k < s.size) : SumAt s (k + 1) (sumF h s[k]) := by
  unfold SumAt at *; rw [drop_cons s k hk] at H; rw [← H]; rfl
theorem SumAt.done {s : ByteArray} {k h : Nat} (H : SumAt s k h) (hk : ¬ k < s.size) : h = sumL (bs s) := by
  unfold SumAt at *; rw [drop_end s k hk] at H; rw [← H]; rfl
theorem sumF_int (h : Nat) (c : UInt8) : ((sumF h c : Nat) : Int) = (41 * (h : Int) + (c.toNat : Int) + 1) % 999979 := by
  unfold sumF; omega
set_option maxHeartbeats 400000 in
theorem l1Sum_any (s : ByteArray) (w : World) (hs : s.size ≤ maxLen) :
    Calls Tryz.prog 169 #[.string s] w fun e w' => e = .returned (.int .i64 (sumL (bs s))) ∧ w = w' := by
  unfold maxLen at hs
  go_enter Tryz.func169, Tryz.ntmps169
  go_wp2
  go_loop [3, 4] (fun h i => ∃ k t : Nat, k ≤ s.size ∧ i = .int .i64 k ∧ h = .int .i64 t ∧ t < 999979 ∧ SumAt s k t) (fun _ i => s.size - (intOf i).toNat)
  case atStart => exact ⟨0, 7, Nat.zero_le _, rfl, rfl, by decide, rfl⟩
  case round =>
    obtain ⟨k, t, hk, rfl, rfl, ht, H⟩ := hrel
    by_cases hlt : k < s.size
    · have hb := byte_lt s[k]
      have hb0 : (0 : Int) ≤ (s[k].toNat : Int) := by omega
      have hbw := byte64 s[k]
      have HS := Lib.hid (sumF_int t s[k])
      have H' := H.step hlt
      go_wp2
      go_round
      case rel => exact ⟨k + 1, sumF t s[k], by omega, by go_num, by rw [HS.out], sumF_lt _ _, H'⟩
      case measure => simp [intOf]; omega
    · have HD := Lib.hid (H.done hlt)
      go_wp2
      go_ret
      exact ⟨ret_int (by rw [← HD.out]), rfl⟩
set_option maxHeartbeats 400000 in
theorem checksum_any (s : ByteArray) (w : World) (hs : s.size ≤ 4000) :
    Calls Tryz.prog 171 #[.string s] w fun e w' => e = .returned (.tuple #[.int .i64 (sumL (bs s)), .bool true]) ∧ w = w' := by
  go_enter Tryz.func171, Tryz.ntmps171
  go_wp2
  go_loop [4, 5] (fun h i => ∃ k t : Nat, k ≤ s.size ∧ i = .int .i64 k ∧ h = .int .i64 t ∧ t < 999979 ∧ SumAt s k t) (fun _ i => s.size - (intOf i).toNat)
  case atStart => exact ⟨0, 7, Nat.zero_le _, rfl, rfl, by decide, rfl⟩
  case round =>
    obtain ⟨k, t, hk, rfl, rfl, ht, H⟩ := hrel
    by_cases hlt : k < s.size
    · have hb := byte_lt s[k]
      have hb0 : (0 : Int) ≤ (s[k].toNat : Int) := by omega
      have hbw := byte64 s[k]
      have HS := Lib.hid (sumF_int t s[k])
      have H' := H.step hlt
      go_wp2
      go_round
      case rel => exact ⟨k + 1, sumF t s[k], by omega, by go_num, by rw [HS.out], sumF_lt _ _, H'⟩
      case measure => simp [intOf]; omega
    · have HD := Lib.hid (H.done hlt)
      go_wp2
      go_ret2
      exact ⟨ret_ib (by rw [← HD.out]) rfl, rfl⟩
set_option maxHeartbeats 400000 in
theorem checksum_big (s : ByteArray) (w : World) (hs : 4000 < s.size) (hs2 : s.size ≤ maxLen) :
    Calls Tryz.prog 171 #[.string s] w fun e w' => e = .returned (.tuple #[.int .i64 0, .bool false]) ∧ w = w' := by
  unfold maxLen at hs2
  go_enter Tryz.func171, Tryz.ntmps171
  go_wp2
  go_ret2
  exact ⟨rfl, rfl⟩
theorem seal_eq (s : ByteArray) : s ++ (⟨#[35]⟩ : ByteArray) ++ mk (Lib.decDigits (sumL (bs s))) = mk (sealL (bs s)) := by
  apply mk_eq
  rw [bs_app, bs_app, bs_of]
  unfold sealL
  rw [List.append_assoc]; rfl
set_option maxHeartbeats 400000 in
theorem l1Seal_any (s : ByteArray) (w : World) (hs : s.size ≤ 1073741824) :
    Calls Tryz.prog 157 #[.string s] w (Qt w (.string (mk (sealL (bs s))))) := by
  have hlt := sumL_lt (bs s)
  have HE := Lib.hid (seal_eq s)
  have hd := dec_len (u := sumL (bs s)) (by omega)
  have k1 := cat s ⟨#[35]⟩ (by show s.size + 1 ≤ _; omega)
  have k2 := cat (s ++ ⟨#[35]⟩) (mk (Lib.decDigits (sumL (bs s)))) (by rw [size_app, size_mk]; show s.size + 1 + _ ≤ _; omega)
  go_enter Tryz.func157, Tryz.ntmps157
  go_wp2_with (first | (go_at_call 169; refine (l1Sum_any _ _ (by unfold maxLen; omega)).mono ?_; rintro e w' ⟨rfl, rfl⟩) | (go_at_call 23; refine (l1Num_any _ (by omega) _).mono ?_; rintro e w' ⟨rfl, z, rfl⟩))
  go_ret
  exact ⟨ret_str HE.out, (by first | exact Drawn.zero _ | exact Drawn.at_ _ _ | exact (Drawn.at_ _ _).more _ | exact ((Drawn.at_ _ _).more _).more _)⟩
end Go.Proofs.YtbonebpheimbaaaGreatDoor.Lg
namespace Go.Proofs.YtbonebpheimbaaaGreatDoor.Lg
open Go.RowKit

def AppR (s t : ByteArray) (ok : Bool) : Prop := (ok = true → t = mk (sealL (bs s))) ∧ (ok = false → ¬ ((35 : UInt8) ∉ bs s ∧ s.size ≤ 3900))
def AppE (w : World) (s : ByteArray) (e : Ending) (w' : World) : Prop := ∃ t ok, e = .returned (.tuple #[.string t, .bool ok]) ∧ AppR s t ok ∧ Below w.heap.size w w'
theorem has35 (s : ByteArray) : decide (0 ≤ Lib.indexByte s.data.toList 35) = has 35 (bs s) := has_indexByte 35 (bs s)
set_option maxHeartbeats 1000000 in
theorem append_any (s : ByteArray) (w : World) (hs : s.size ≤ maxLen) (ht : Tab w) :
    Calls Tryz.prog 161 #[.string s] w (AppE w s) := by
  have hlt := sumL_lt (bs s)
  have hd := dec_len (u := sumL (bs s)) (by omega)
  by_cases h1 : s.size ≤ 4000
  · rcases h2 : has 35 (bs s) with _ | _
    · have HC : Hid (decide (0 ≤ Lib.indexByte s.data.toList 35) = false) := by show _ = _; rw [has35, h2]
      have HE := Lib.hid (seal_eq s)
      have k1 := cat s ⟨#[35]⟩ (by show s.size + 1 ≤ _; omega)
      have k2 := cat (s ++ ⟨#[35]⟩) (mk (Lib.decDigits (sumL (bs s)))) (by rw [size_app, size_mk]; show s.size + 1 + _ ≤ _; omega)
      have HR : Hid ((35 : UInt8) ∉ bs s) := fun hm => by
        have := has_mem (c := 35).2 hm
        rw [show ((35 : UInt8).toNat : Int) = 35 from rfl, h2] at this
        exact absurd this (by decide)
      have HZ : Hid ((mk (Lib.decDigits (sumL (bs s)))).size ≤ 6) := hd
      clear h2
      go_enter Tryz.func161, Tryz.ntmps161
      go_wp2_with (first | (go_at_call 171; refine (checksum_any _ _ h1).mono ?_; rintro e w' ⟨rfl, rfl⟩) | (go_at_call 172; refine (Tryz.strings_Contains_one _ _ _).mono ?_; rintro e w' ⟨rfl, rfl⟩; rw [HC.out]) | (go_at_call 27; refine (itoa_any _ (by omega) _ ht).mono ?_; rintro e w1 ⟨rfl, hb1⟩))
      · go_ret2
        exact ⟨_, _, rfl, ⟨fun h => by simp at h, fun _ h => by have := HZ.out; omega⟩, hb1⟩
      · go_ret2
        exact ⟨_, _, rfl, ⟨fun _ => HE.out, fun h => by simp at h⟩, hb1⟩
    · have HC : Hid (decide (0 ≤ Lib.indexByte s.data.toList 35) = true) := by show _ = _; rw [has35, h2]
      have HR : Hid ((35 : UInt8) ∈ bs s) := has_mem (c := 35).1 h2
      go_enter Tryz.func161, Tryz.ntmps161
      go_wp2_with (first | (go_at_call 171; refine (checksum_any _ _ h1).mono ?_; rintro e w' ⟨rfl, rfl⟩) | (go_at_call 172; refine (Tryz.strings_Contains_one _ _ _).mono ?_; rintro e w' ⟨rfl, rfl⟩; rw [HC.out]))
      go_ret2
      exact ⟨_, _, rfl, ⟨fun h => by simp at h, fun _ h => h.1 HR.out⟩, Below.refl _ _⟩
  · go_enter Tryz.func161, Tryz.ntmps161
    go_wp2_with (go_at_call 171; refine (checksum_big _ _ (by omega) hs).mono ?_; rintro e w' ⟨rfl, rfl⟩)
    go_ret2
    exact ⟨_, _, rfl, ⟨fun h => by simp at h, fun _ h => by omega⟩, Below.refl _ _⟩

/-! ## a record's line -/
theorem mk_app (a b : Bs) : mk a ++ mk b = mk (a ++ b) := by apply mk_eq; rw [bs_app]; rfl
theorem body_eq (k : Nat) (c r : ByteArray) : mk (Lib.decDigits k) ++ (⟨#[32]⟩ : ByteArray) ++ c ++ (⟨#[64]⟩ : ByteArray) ++ r = mk (bodyL k (bs c) (bs r)) := by
  apply mk_eq
  simp only [bs_app, bs_of]
  unfold bodyL
  rw [List.append_assoc, List.append_assoc, List.append_assoc]
  rfl
theorem line_mk (k : Nat) (c r : Bs) : mk (sealL (bodyL k c r)) ++ (⟨#[10]⟩ : ByteArray) = mk (lineL k c r) := mk_app _ [10]
theorem good_sz {c r : ByteArray} (h : goodB c r = true) : c.size ≤ 160 ∧ r.size ≤ 200 := by
  rw [goodB_eq] at h
  have := goodL_good h
  exact ⟨this.lc, this.lr⟩

set_option maxHeartbeats 1000000 in
theorem l33Line_any (k : Nat) (c r : ByteArray) (w : World) (hk : k < 1000000) (hc : c.size ≤ 4000) (hr : r.size ≤ 4000) :
    Calls Tryz.prog 134 #[.int .i64 k, .agg #[.string c, .string r]] w (Bl w (.string (mk (lineL k (bs c) (bs r))))) := by
  have hd := dec_len (u := k) hk
  have HB := body_eq k c r
  have hseal := seal_len (l := bodyL k (bs c) (bs r))
  have hbl : (bodyL k (bs c) (bs r)).length ≤ 8010 := by
    simp only [bodyL, List.length_append, List.length_cons]
    have h1 : (bs c).length ≤ 4000 := hc
    have h2 : (bs r).length ≤ 4000 := hr
    omega
  have hb := below_box w (.cells #[.string c, .string r] 131)
  have BX := Blk.new w 131 #[.string c, .string r]
  have c0 := BX.cell 0
  have c1 := BX.cell 1
  simp at c0 c1
  have k1 := cat (mk (Lib.decDigits k)) ⟨#[32]⟩ (by rw [size_mk]; show _ + 1 ≤ _; omega)
  have k2 := cat (mk (Lib.decDigits k) ++ ⟨#[32]⟩) c (by rw [size_app, size_mk]; show _ + 1 + _ ≤ _; omega)
  have k3 := cat (mk (Lib.decDigits k) ++ ⟨#[32]⟩ ++ c) ⟨#[64]⟩ (by rw [size_app, size_app, size_mk]; show _ + 1 + _ + 1 ≤ _; omega)
  have k4 := cat (mk (Lib.decDigits k) ++ ⟨#[32]⟩ ++ c ++ ⟨#[64]⟩) r (by rw [size_app, size_app, size_app, size_mk]; show _ + 1 + _ + 1 + _ ≤ _; omega)
  have k5 := cat (mk (sealL (bodyL k (bs c) (bs r)))) ⟨#[10]⟩ (by rw [size_mk]; show _ + 1 ≤ _; omega)
  rw [HB] at k4
  have HL := Lib.hid (line_mk k (bs c) (bs r))
  have hsl := fun (W : World) => l1Seal_any (mk (bodyL k (bs c) (bs r))) W (by rw [size_mk]; omega)
  rw [bs_of] at hsl
  clear HB
  go_enter Tryz.func134, Tryz.ntmps134
  go_wp2
  go_quiet ((first | (go_at_call 23; first | exact quiet_one (l1Num_any _ hk _) | exact quiet_add (l1Num_any _ hk _)) | (go_at_call 157; first | exact quiet_one (hsl _) | exact quiet_add (hsl _))))
  go_wp2
  go_ret
  exact ⟨ret_str HL.out, (by first | exact hb | exact below_drewN (hb) _ | exact below_drewN (below_drewN (hb) _) _ | exact below_drewN (below_drewN (below_drewN (hb) _) _) _)⟩
def encB (k : Int) (c r : ByteArray) : Bool := inB k 0 59 && goodB c r
def encS (k : Int) (c r : ByteArray) : ByteArray := if encB k c r then mk (lineL k.toNat (bs c) (bs r)) else ⟨#[]⟩
theorem encS_yes {k : Int} {c r : ByteArray} (h : encB k c r = true) : encS k c r = mk (lineL k.toNat (bs c) (bs r)) := by unfold encS; rw [if_pos h]
theorem encS_no {k : Int} {c r : ByteArray} (h : encB k c r = false) : encS k c r = ⟨#[]⟩ := by unfold encS; rw [h]; rfl
end Go.Proofs.YtbonebpheimbaaaGreatDoor.Lg
namespace Go.Proofs.YtbonebpheimbaaaGreatDoor.Lg
open Go.RowKit

set_option maxHeartbeats 2000000 in
theorem implEnc_any (k : Int) (c r : ByteArray) (w : World) (hc : c.size ≤ maxLen) (hr : r.size ≤ maxLen) (ht : Tab w) :
    Calls Tryz.prog 144 #[.int .i64 k, .agg #[.string c, .string r]] w (Bl w (.tuple #[.string (encS k c r), .bool (encB k c r)])) := by
  have hb := below_box w (.cells #[.string c, .string r] 131)
  have BX := Blk.new w 131 #[.string c, .string r]
  have c0 := BX.cell 0
  have c1 := BX.cell 1
  simp at c0 c1
  by_cases h1 : 0 ≤ k ∧ k < 60
  rotate_left
  · have hE : encB k c r = false := by
      have : inB k 0 59 = false := by unfold inB; simp; omega
      unfold encB; rw [this]; rfl
    have HE := Lib.hid hE
    have HS := Lib.hid (encS_no hE)
    clear hE
    have hk1 : (0 ≤ k ∧ 60 ≤ k) ∨ k < 0 := by omega
    clear h1
    rcases hk1 with ⟨hk0, hk1⟩ | hk1
    all_goals
      (try (have hk5 : ¬ k < 0 := by omega))
      go_enter Tryz.func144, Tryz.ntmps144
      go_wp2_with fail
      go_ret2
      exact ⟨ret_sb HS.out.symm HE.out.symm, hb⟩
  · obtain ⟨q, rfl⟩ := Int.eq_ofNat_of_zero_le h1.1
    have hq : q < 60 := by omega
    have hk0 : ¬ ((q : Int) < 0) := by omega
    have hk1 : (q : Int) < 60 := by omega
    have hk6 : ¬ (60 : Int) ≤ (q : Int) := by omega
    have hin : inB (q : Int) 0 59 = true := by unfold inB; simp; omega
    rcases h2 : goodB c r with _ | _
    · have hE : encB (q : Int) c r = false := by unfold encB; rw [h2, Bool.and_false]
      have HE := Lib.hid hE
      have HS := Lib.hid (encS_no hE)
      have H2 := Lib.hid h2
      clear hE h2 h1 hin
      go_enter Tryz.func144, Tryz.ntmps144
      go_wp2_with fail
      refine (implValid_any _ _ _ hc hr).mono ?_
      rintro e w2 ⟨rfl, hb2⟩
      rw [H2.out]
      go_wp2_with fail
      go_ret2
      exact ⟨ret_sb HS.out.symm HE.out.symm, below_next hb hb2 rfl⟩
    · have hE : encB (q : Int) c r = true := by unfold encB; rw [h2, hin]; rfl
      have HE := Lib.hid hE
      have HS := Lib.hid (encS_yes hE)
      have H2 := Lib.hid h2
      obtain ⟨hc1, hr1⟩ := good_sz h2
      have hG := goodL_good (by rw [← goodB_eq]; exact h2)
      have HNO := Lib.hid (body_no (k := q) hG)
      have hbl := body_len hq hG
      have hd := dec_len (u := q) (by omega)
      have HB := body_eq q c r
      have hseal := seal_len (l := bodyL q (bs c) (bs r))
      have k1 := cat (mk (Lib.decDigits q)) ⟨#[32]⟩ (by rw [size_mk]; show _ + 1 ≤ _; omega)
      have k2 := cat (mk (Lib.decDigits q) ++ ⟨#[32]⟩) c (by rw [size_app, size_mk]; show _ + 1 + _ ≤ _; omega)
      have k3 := cat (mk (Lib.decDigits q) ++ ⟨#[32]⟩ ++ c) ⟨#[64]⟩ (by rw [size_app, size_app, size_mk]; show _ + 1 + _ + 1 ≤ _; omega)
      have k4 := cat (mk (Lib.decDigits q) ++ ⟨#[32]⟩ ++ c ++ ⟨#[64]⟩) r (by rw [size_app, size_app, size_app, size_mk]; show _ + 1 + _ + 1 + _ ≤ _; omega)
      have k5 := cat (mk (sealL (bodyL q (bs c) (bs r)))) ⟨#[10]⟩ (by rw [size_mk]; show _ + 1 ≤ _; omega)
      rw [HB] at k4
      have HL := Lib.hid (line_mk q (bs c) (bs r))
      clear hE h2 h1 hin HB hseal hd
      go_enter Tryz.func144, Tryz.ntmps144
      go_wp2_with fail
      refine (implValid_any _ _ _ hc hr).mono ?_
      rintro e w2 ⟨rfl, hb2⟩
      rw [H2.out]
      have hT := below_next hb hb2 rfl
      have ht2 := ht.next hT
      have BX2 := BX.next hb2
      have c0 := BX2.cell 0
      have c1 := BX2.cell 1
      simp at c0 c1
      go_wp2_with fail
      go_region_held3 (fun w' => w'.cell? ⟨w.heap.size, 0, none⟩ = some (.string c) ∧ w'.cell? ⟨w.heap.size, 1, none⟩ = some (.string r)) (first | go_keep | exact ⟨keepc hb3 c0, keepc hb3 c1⟩) (first | (go_at_call 27; refine (itoa_small q (by omega) _).mono ?_; rintro e w3 ⟨rfl, z, rfl⟩) | (go_at_call 161; refine (append_any (mk (bodyL q (bs c) (bs r))) _ (by rw [size_mk]; unfold maxLen; omega) (by first | exact ht2 | exact ht2.drewN _ | exact (ht2.drewN 1).drewN _)).mono ?_; rintro e w3 ⟨t, ok, rfl, har, hb3⟩))
      have hT3 : Below w.heap.size w w3 := by first | exact below_next (below_drewN hT _) hb3 rfl | exact below_next (below_drewN (Below.drew hT) _) hb3 rfl
      rcases ok with _ | _
      · exact absurd ⟨HNO.out.1, by rw [size_mk]; omega⟩ (har.2 rfl)
      · obtain rfl := har.1 rfl
        clear har
        rw [bs_of]
        go_wp2
        go_ret2
        exact ⟨ret_sb (by rw [HL.out, HS.out]; rfl) HE.out.symm, hT3⟩

theorem encS_len (k : Int) (c r : ByteArray) : (encS k c r).size ≤ 372 := by
  unfold encS
  split
  · rename_i h
    unfold encB at h
    rw [Bool.and_eq_true] at h
    have hk : k.toNat < 60 := by have := h.1; unfold inB at this; simp at this; omega
    have hG := goodL_good (by rw [← goodB_eq]; exact h.2)
    exact line_len hk hG
  · exact Nat.zero_le _
end Go.Proofs.YtbonebpheimbaaaGreatDoor.Lg
namespace Go.Proofs.YtbonebpheimbaaaGreatDoor.Lg

def splitL (b : UInt8) : Bs → List Bs
  | [] => [[]]
  | x :: l => if x = b then [] :: splitL b l else match splitL b l with
    | [] => [[x]]
    | p :: ps => (x :: p) :: ps
theorem splitL_no {b : UInt8} : ∀ {l : Bs}, b ∉ l → splitL b l = [l]
  | [], _ => rfl
  | x :: l, h => by
    rw [splitL, if_neg (fun e => h (by rw [e]; simp)), splitL_no (fun hm => h (List.mem_cons_of_mem _ hm))]
theorem splitL_app {b : UInt8} : ∀ {a x : Bs}, b ∉ a → splitL b (a ++ b :: x) = a :: splitL b x
  | [], x, _ => by rw [List.nil_append, splitL, if_pos rfl]
  | d :: a, x, h => by
    rw [List.cons_append, splitL, if_neg (fun e => h (by rw [e]; simp)), splitL_app (fun hm => h (List.mem_cons_of_mem _ hm))]
theorem split_at {b : UInt8} : ∀ (l : Bs), b ∈ l → ∃ a x, l = a ++ b :: x ∧ b ∉ a
  | [], h => by simp at h
  | d :: l, h => by
    by_cases hd : d = b
    · exact ⟨[], l, by rw [hd]; rfl, by simp⟩
    · rcases List.mem_cons.1 h with rfl | h
      · exact absurd rfl hd
      · obtain ⟨a, x, e, hn⟩ := split_at l h
        exact ⟨d :: a, x, by rw [e]; rfl, fun hm => by
          rcases List.mem_cons.1 hm with e | hm
          · exact hd e.symm
          · exact hn hm⟩
theorem cutAt_no {b : UInt8} : ∀ {l : Bs}, b ∉ l → cutAt b l = (l, [])
  | [], _ => rfl
  | x :: l, h => by rw [cutAt, if_neg (fun e => h (by rw [e]; simp)), cutAt_no (fun hm => h (List.mem_cons_of_mem _ hm))]
theorem split_pos (b : UInt8) (l : Bs) : 0 < (splitL b l).length := by
  by_cases h : b ∈ l
  · obtain ⟨a, x, rfl, hn⟩ := split_at l h
    rw [splitL_app hn]; simp
  · rw [splitL_no h]; simp
theorem split_first (b : UInt8) (l : Bs) : (splitL b l)[0]? = some (cutAt b l).1 := by
  by_cases h : b ∈ l
  · obtain ⟨a, x, rfl, hn⟩ := split_at l h
    rw [splitL_app hn, cutAt_app hn]; rfl
  · rw [splitL_no h, cutAt_no h]; rfl
theorem split_two (b : UInt8) (l : Bs) : 2 ≤ (splitL b l).length ↔ b ∈ l := by
  by_cases h : b ∈ l
  · obtain ⟨a, x, rfl, hn⟩ := split_at l h
    rw [splitL_app hn, List.length_cons]
    have := split_pos b x
    exact ⟨fun _ => h, fun _ => by omega⟩
  · rw [splitL_no h]
    exact ⟨fun h' => by simp at h', fun h' => absurd h' h⟩
theorem split_len (b : UInt8) : ∀ (l : Bs), (splitL b l).length ≤ l.length + 1
  | [] => by simp [splitL]
  | x :: l => by
    have ih := split_len b l
    rw [splitL]
    split
    · simp; omega
    · have hp := split_pos b l
      cases e : splitL b l with
      | nil => rw [e] at hp; simp at hp
      | cons p ps => rw [e] at ih; simp at ih ⊢; omega

theorem seal_cut {a : Bs} (h : (35 : UInt8) ∉ a) : cutAt 35 (sealL a) = (a, Lib.decDigits (sumL a)) := by unfold sealL; exact cutAt_app h
/-- What the reference's reading of a line says, and what the program's says. -/
def DecR (k : Nat) (line c r : Bs) (ok : Bool) : Prop := match decL k line with
  | some (c', r') => ok = true ∧ c = c' ∧ r = r'
  | none => ok = false
theorem DecR.yes {k : Nat} {line c r : Bs} (h1 : goodL c r = true) (h2 : k < 60) (h3 : lineL k c r = line) : DecR k line c r true := by
  unfold DecR; rw [decL_iff.2 ⟨h1, h2, h3⟩]; exact ⟨rfl, rfl, rfl⟩
theorem DecR.no {k : Nat} {line c r : Bs} (h : ∀ c r, goodL c r = true → k < 60 → lineL k c r ≠ line) : DecR k line c r false := by
  unfold DecR; rw [decL_none h]
/-- A line that is one: its parts. -/
theorem line_parts {k : Nat} {s c r : Bs} (hg : goodL c r = true) (h : lineL k c r = s ++ [10]) :
    (cutAt 35 s).1 = bodyL k c r ∧ (bodyL k c r).take (Lib.decDigits k ++ [32]).length = Lib.decDigits k ++ [32] ∧ (bodyL k c r).drop (Lib.decDigits k ++ [32]).length = c ++ 64 :: r ∧ cutAt 64 (c ++ 64 :: r) = (c, r) := by
  have hG := goodL_good hg
  have hs : s = sealL (bodyL k c r) := by
    unfold lineL at h
    exact (List.append_inj' h rfl).1.symm
  have hb : bodyL k c r = (Lib.decDigits k ++ [32]) ++ (c ++ 64 :: r) := by simp [bodyL]
  refine ⟨by rw [hs, seal_cut (body_no hG).1], ?_, ?_, cutAt_app hG.at_⟩
  · rw [hb, List.take_append_of_le_length (Nat.le_refl _), List.take_length]
  · rw [hb, List.drop_append_of_le_length (Nat.le_refl _), List.drop_length, List.nil_append]
/-- The reference: the text ahead of '#' does not begin with the number. -/
theorem read_no1 {k : Nat} {s c r : Bs} (h : ¬ ((Lib.decDigits k ++ [32]).length ≤ (cutAt 35 s).1.length ∧ (cutAt 35 s).1.take (Lib.decDigits k ++ [32]).length = Lib.decDigits k ++ [32])) : DecR k (s ++ [10]) c r false :=
  DecR.no fun c' r' hg _ he => by
    obtain ⟨h1, h2, -, -⟩ := line_parts hg he
    refine h ⟨?_, by rw [h1]; exact h2⟩
    rw [h1]
    have := congrArg List.length h2
    rw [List.length_take] at this
    omega
theorem read_no2 {k : Nat} {s rest c r : Bs} (hr : (cutAt 35 s).1.drop (Lib.decDigits k ++ [32]).length = rest) (h : (cutAt 64 rest).1.length = rest.length) : DecR k (s ++ [10]) c r false :=
  DecR.no fun c' r' hg _ he => by
    obtain ⟨h1, -, h3, h4⟩ := line_parts hg he
    rw [h1, h3] at hr
    rw [← hr, h4] at h
    simp at h
theorem read_no3 {k : Nat} {s rest c r : Bs} (hr : (cutAt 35 s).1.drop (Lib.decDigits k ++ [32]).length = rest) (hc : (cutAt 64 rest).1 = c) (hrr : rest.drop (c.length + 1) = r) (h : ¬ (goodL c r = true ∧ k < 60 ∧ lineL k c r = s ++ [10])) : DecR k (s ++ [10]) c r false :=
  DecR.no fun c' r' hg hk he => by
    obtain ⟨h1, -, h3, h4⟩ := line_parts hg he
    rw [h1, h3] at hr
    subst hr
    rw [h4] at hc
    simp only at hc
    subst hc
    have : r = r' := by rw [← hrr]; simp
    subst this
    exact h ⟨hg, hk, he⟩

/-! ## the program's decoding -/
/-- What VerifyChecksum answers: the text is t's seal; or of no short text without '#' at all. -/
def VerR (s t : Bs) (ok : Bool) : Prop := (ok = true → s = sealL t) ∧ (ok = false → ∀ a, (35 : UInt8) ∉ a → a.length ≤ 3000 → s ≠ sealL a)
theorem dec_no35 (u : Nat) : (35 : UInt8) ∉ Lib.decDigits u := nd (by decide)
/-- The last '#' of a seal stands behind the text. -/
theorem seal_last {s a : Bs} {i : Nat} (hs : s = sealL a) (hi : s[i]? = some 35) (hl : ∀ j, i < j → s[j]? ≠ some 35) : i = a.length := by
  subst hs
  have h0 : (sealL a)[a.length]? = some 35 := by unfold sealL; simp
  rcases Nat.lt_trichotomy i a.length with h | h | h
  · exact absurd h0 (hl _ h)
  · exact h
  · exfalso
    unfold sealL at hi
    rw [List.getElem?_append_right (by omega)] at hi
    obtain ⟨j, hj⟩ : ∃ j, i - a.length = j + 1 := ⟨i - a.length - 1, by omega⟩
    rw [hj, List.getElem?_cons_succ] at hi
    exact dec_no35 _ (List.mem_of_getElem? hi)
/-- A line of the program: trimmed, it is the seal of the body. -/
theorem trim_line {k : Nat} {c r : Bs} : Lib.trimSuffix (lineL k c r) [10] = sealL (bodyL k c r) := by
  unfold Lib.trimSuffix Lib.hasSuffix lineL
  have h : ([10] : Bs).isSuffixOf (sealL (bodyL k c r) ++ [10]) = true := by
    rw [List.isSuffixOf_iff_suffix]
    exact ⟨sealL (bodyL k c r), rfl⟩
  rw [if_pos h]
  simp
theorem body_cut {k : Nat} {c r : Bs} (hg : goodL c r = true) : cutAt 32 (bodyL k c r) = (Lib.decDigits k, c ++ 64 :: r) ∧ (32 : UInt8) ∈ bodyL k c r ∧ cutAt 64 (c ++ 64 :: r) = (c, r) ∧ (64 : UInt8) ∈ c ++ 64 :: r :=
  ⟨cutAt_app (nd (by decide)), by simp [bodyL], cutAt_app (goodL_good hg).at_, by simp⟩
theorem decode_no {k : Nat} {line t s c r : Bs} {ok : Bool} (hk : k < 60) (ht : Lib.trimSuffix line [10] = t) (hv : VerR t s ok)
    (h : ¬ (ok = true ∧ (32 : UInt8) ∈ s ∧ (64 : UInt8) ∈ (cutAt 32 s).2 ∧ goodL (cutAt 64 (cutAt 32 s).2).1 (cutAt 64 (cutAt 32 s).2).2 = true ∧ lineL k (cutAt 64 (cutAt 32 s).2).1 (cutAt 64 (cutAt 32 s).2).2 = line)) : DecR k line c r false :=
  DecR.no fun c' r' hg _ he => by
    have hG := goodL_good hg
    have e1 : t = sealL (bodyL k c' r') := by rw [← ht, ← he, trim_line]
    rcases ok with _ | _
    · exact hv.2 rfl (bodyL k c' r') (body_no hG).1 (by have := body_len hk hG; omega) e1
    · have e2 := hv.1 rfl
      rw [e1] at e2
      have e3 : cutAt 35 (sealL s) = (bodyL k c' r', Lib.decDigits (sumL (bodyL k c' r'))) := by rw [← e2, seal_cut (body_no hG).1]
      have e4 : s = bodyL k c' r' := by
        have hm : (35 : UInt8) ∉ s := fun hm => by
          obtain ⟨a, x, rfl, hn⟩ := split_at s hm
          have : sealL (a ++ 35 :: x) = a ++ 35 :: (x ++ 35 :: Lib.decDigits (sumL (a ++ 35 :: x))) := by simp [sealL]
          rw [this, cutAt_app hn] at e3
          have h5 := congrArg Prod.snd e3
          simp only at h5
          exact dec_no35 (sumL (bodyL k c' r')) (by rw [← h5]; simp)
        rw [seal_cut hm] at e3
        exact congrArg Prod.fst e3
      obtain ⟨f1, f2, f3, f4⟩ := body_cut (k := k) hg
      refine h ⟨rfl, by rw [e4]; exact f2, by rw [e4, f1]; exact f4, ?_, ?_⟩
      · rw [e4, f1]; simp only; rw [f3]; exact hg
      · rw [e4, f1]; simp only; rw [f3]; exact he
end Go.Proofs.YtbonebpheimbaaaGreatDoor.Lg
