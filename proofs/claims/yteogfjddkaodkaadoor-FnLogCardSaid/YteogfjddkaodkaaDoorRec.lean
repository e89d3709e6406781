
/- Walks of what IsValidRecord reaches, in the program and in the reference: both say 'goodB'. -/
import Derived.Test.YteogfjddkaodkaaDoorMem
import Derived.Test.YteogfjddkaodkaaDoorProg
import Derived.Test.YteogfjddkaodkaaDoorShelf
namespace Go.Proofs.YteogfjddkaodkaaDoor
open Go.RowKit

def okB (c : Int) : Bool := decide (32 ≤ c) && decide (c ≤ 126) && !(c == 35)
def allOk : List UInt8 → Bool
  | [] => true
  | c :: l => okB c.toNat && allOk l
def plainB (s : ByteArray) (m : Int) : Bool := allOk (bs s) && decide ((s.size : Int) ≤ m)
/-- Is the record (command, reply) a valid one? -/
def goodB (c r : ByteArray) : Bool := !(bs c).isEmpty && plainB c 160 && !(has 64 (bs c)) && plainB r 200
def inB (x a b : Int) : Bool := decide (a ≤ x) && decide (x ≤ b)

theorem inB_okB (c : UInt8) : okB c.toNat = (inB (wrap64 (c.toNat : Int)) 32 126 && !((c.toNat : Int) == 35)) := by
  rw [byte64]; rfl
theorem okB_lo {c : Int} (h : c < 32) : okB c = false := by unfold okB; simp; omega
theorem okB_hi {c : Int} (h : 126 < c) : okB c = false := by unfold okB; simp; omega
theorem okB_hash {c : Int} (h : (c == 35) = true) : okB c = false := by unfold okB; rw [h]; simp
theorem okB_yes {c : Int} (h1 : ¬ c < 32) (h2 : ¬ 126 < c) (h : (c == 35) = false) : okB c = true := by unfold okB; rw [h]; simp; omega
def AllAt (s : ByteArray) (k : Nat) : Prop := allOk ((bs s).drop k) = allOk (bs s)
theorem AllAt.start (s : ByteArray) : AllAt s 0 := rfl
theorem AllAt.step {s : ByteArray} {k : Nat} (h : AllAt s k) (hk : k < s.size) (ho : okB s[k].toNat = true) : AllAt s (k + 1) := by
  unfold AllAt at *; rw [drop_cons s k hk] at h; rw [← h]; simp [allOk, ho]
theorem AllAt.stop {s : ByteArray} {k : Nat} {m : Int} (h : AllAt s k) (hk : k < s.size) (ho : okB s[k].toNat = false) : false = plainB s m := by
  unfold AllAt at *; rw [drop_cons s k hk] at h; unfold plainB; rw [← h]; simp [allOk, ho]
theorem AllAt.done {s : ByteArray} {k : Nat} {m : Int} (h : AllAt s k) (hk : ¬ k < s.size) : decide ((s.size : Int) ≤ m) = plainB s m := by
  unfold AllAt at *; rw [drop_end s k hk] at h; unfold plainB; rw [← h]; rfl
theorem plainB_big {s : ByteArray} {m : Int} (h : ¬ (s.size : Int) ≤ m) : false = plainB s m := by unfold plainB; simp; omega
def HasAt (c : Int) (s : ByteArray) (k : Nat) : Prop := has c ((bs s).drop k) = has c (bs s)
theorem HasAt.start (c : Int) (s : ByteArray) : HasAt c s 0 := rfl
theorem HasAt.step {c : Int} {s : ByteArray} {k : Nat} (h : HasAt c s k) (hk : k < s.size) (ho : ((s[k].toNat : Int) == c) = false) : HasAt c s (k + 1) := by
  unfold HasAt at *; rw [drop_cons s k hk] at h; rw [← h]; simp [has, ho]
theorem HasAt.stop {c : Int} {s : ByteArray} {k : Nat} (h : HasAt c s k) (hk : k < s.size) (ho : ((s[k].toNat : Int) == c) = true) : true = has c (bs s) := by
  unfold HasAt at *; rw [drop_cons s k hk] at h; rw [← h]; simp [has, ho]
theorem HasAt.done {c : Int} {s : ByteArray} {k : Nat} (h : HasAt c s k) (hk : ¬ k < s.size) : false = has c (bs s) := by
  unfold HasAt at *; rw [drop_end s k hk] at h; rw [← h]; rfl

set_option maxHeartbeats 400000 in
theorem l1In_any (x a b : Int) (w : World) :
    Calls Tryd.prog 42 #[.int .i64 x, .int .i64 a, .int .i64 b] w fun e w' => e = .returned (.bool (inB x a b)) ∧ w = w' := by
  unfold inB
  by_cases h : a ≤ x
  all_goals
    go_enter Tryd.func42, Tryd.ntmps42
    go_wp2
    go_ret
    exact ⟨ret_bool (by simp; omega), rfl⟩

set_option maxHeartbeats 400000 in
theorem l33Plain_any (s : ByteArray) (m : Int) (w : World) (hs : s.size ≤ maxLen) :
    Calls Tryd.prog 62 #[.string s, .int .i64 m] w fun e w' => e = .returned (.bool (plainB s m)) ∧ w = w' := by
  unfold maxLen at hs
  go_enter Tryd.func62, Tryd.ntmps62
  go_wp2
  go_loop [5] (fun i => ∃ k : Nat, k ≤ s.size ∧ i = .int .i64 k ∧ AllAt s k) (fun i => s.size - (intOf i).toNat)
  case atStart => exact ⟨0, Nat.zero_le _, rfl, AllAt.start s⟩
  case round =>
    obtain ⟨k, hk, rfl, H⟩ := hrel
    by_cases hlt : k < s.size
    · have HS := Lib.hid (inB_okB s[k])
      go_wp2_with (go_at_call 42; refine (l1In_any _ _ _ _).mono ?_; rintro e w' ⟨rfl, rfl⟩)
      all_goals first
        | (go_ret
           exact ⟨ret_bool (H.stop hlt (by rw [HS.out]; simp [*])), rfl⟩)
        | (go_round
           case rel => exact ⟨k + 1, by omega, by go_num, H.step hlt (by rw [HS.out]; simp [*])⟩
           case measure => simp [intOf]; omega)
    · go_wp2
      go_ret
      exact ⟨ret_bool (H.done hlt), rfl⟩

set_option maxHeartbeats 400000 in
theorem l1Stands_any (s : ByteArray) (c : Int) (w : World) (hs : s.size ≤ maxLen) :
    Calls Tryd.prog 63 #[.string s, .int .u8 c] w fun e w' => e = .returned (.bool (has c (bs s))) ∧ w = w' := by
  unfold maxLen at hs
  go_enter Tryd.func63, Tryd.ntmps63
  go_wp2
  go_loop [5] (fun i => ∃ k : Nat, k ≤ s.size ∧ i = .int .i64 k ∧ HasAt c s k) (fun i => s.size - (intOf i).toNat)
  case atStart => exact ⟨0, Nat.zero_le _, rfl, HasAt.start c s⟩
  case round =>
    obtain ⟨k, hk, rfl, H⟩ := hrel
    by_cases hlt : k < s.size
    · go_wp2
      all_goals first
        | (go_ret
           exact ⟨ret_bool (H.stop hlt (by assumption)), rfl⟩)
        | (go_round
           case rel => exact ⟨k + 1, by omega, by go_num, H.step hlt (by assumption)⟩
           case measure => simp [intOf]; omega)
    · go_wp2
      go_ret
      exact ⟨ret_bool (H.done hlt), rfl⟩

set_option maxHeartbeats 400000 in
theorem isPlain_any (s : ByteArray) (m : Int) (w : World) (hs : s.size ≤ maxLen) :
    Calls Tryd.prog 61 #[.string s, .int .i64 m] w fun e w' => e = .returned (.bool (plainB s m)) ∧ w = w' := by
  unfold maxLen at hs
  by_cases hm : (s.size : Int) ≤ m
  · go_enter Tryd.func61, Tryd.ntmps61
    go_wp2
    go_loop [5] (fun i => ∃ k : Nat, k ≤ s.size ∧ i = .int .i64 k ∧ AllAt s k) (fun i => s.size - (intOf i).toNat)
    case atStart => exact ⟨0, Nat.zero_le _, rfl, AllAt.start s⟩
    case round =>
      obtain ⟨k, hk, rfl, H⟩ := hrel
      by_cases hlt : k < s.size
      · go_wp2
        all_goals first
          | (go_ret
             exact ⟨ret_bool (H.stop hlt (by first | exact okB_lo (by assumption) | exact okB_hi (by assumption) | exact okB_hash (by assumption))), rfl⟩)
          | (go_round
             case rel => exact ⟨k + 1, by omega, by go_num, H.step hlt (okB_yes (by assumption) (by assumption) (by assumption))⟩
             case measure => simp [intOf]; omega)
      · go_wp2
        go_ret
        exact ⟨ret_bool (by rw [← H.done hlt]; simp [hm]), rfl⟩
  · go_enter Tryd.func61, Tryd.ntmps61
    go_wp2
    go_ret
    exact ⟨ret_bool (plainB_big (by omega)), rfl⟩

def cmdB (s : ByteArray) : Bool := !(bs s).isEmpty && plainB s 160 && !(has 64 (bs s))
set_option maxHeartbeats 400000 in
theorem isCommand_any (s : ByteArray) (w : World) (hs : s.size ≤ maxLen) :
    Calls Tryd.prog 60 #[.string s] w fun e w' => e = .returned (.bool (cmdB s)) ∧ w = w' := by
  have hc := Lib.hid (has_indexByte 64 (bs s))
  rcases h1 : (bs s).isEmpty with _ | _
  · have h1' : s.toList.isEmpty = false := by rw [bs_empty, h1]
    rcases h2 : plainB s 160 with _ | _
    · go_enter Tryd.func60, Tryd.ntmps60
      go_wp2_with (go_at_call 61; refine (isPlain_any _ _ _ hs).mono ?_; rintro e w' ⟨rfl, rfl⟩)
      go_ret
      exact ⟨ret_bool (by unfold cmdB; simp [h2]), rfl⟩
    · go_enter Tryd.func60, Tryd.ntmps60
      go_wp2_with (first | (go_at_call 61; refine (isPlain_any _ _ _ hs).mono ?_; rintro e w' ⟨rfl, rfl⟩) | (go_at_call 67; refine (Tryd.strings_Contains_one _ _ _).mono ?_; rintro e w' ⟨rfl, rfl⟩))
      go_ret
      exact ⟨ret_bool (by unfold cmdB; rw [h1, h2]; exact congrArg (fun b => !b) hc.out), rfl⟩
  · have h1' : s.toList.isEmpty = true := by rw [bs_empty, h1]
    go_enter Tryd.func60, Tryd.ntmps60
    go_wp2
    go_ret
    exact ⟨ret_bool (by unfold cmdB; rw [h1]; rfl), rfl⟩

set_option maxHeartbeats 400000 in
theorem implValid_any (c r : ByteArray) (w : World) (hc : c.size ≤ maxLen) (hr : r.size ≤ maxLen) :
    Calls Tryd.prog 39 #[.agg #[.string c, .string r]] w (Bl w (.bool (goodB c r))) := by
  rcases h1 : cmdB c with _ | _
  all_goals
    go_enter Tryd.func39, Tryd.ntmps39
    go_wp2_with (first | (go_at_call 60; refine (isCommand_any _ _ hc).mono ?_; rintro e w' ⟨rfl, rfl⟩) | (go_at_call 61; refine (isPlain_any _ _ _ hr).mono ?_; rintro e w' ⟨rfl, rfl⟩))
    go_ret
    exact ⟨ret_bool (by unfold goodB; unfold cmdB at h1; rw [h1]; rfl), below_box _ _⟩

set_option maxHeartbeats 400000 in
theorem l33Good_any (c r : ByteArray) (w : World) (hc : c.size ≤ maxLen) (hr : r.size ≤ maxLen) :
    Calls Tryd.prog 43 #[.agg #[.string c, .string r]] w (Bl w (.bool (goodB c r))) := by
  rcases h1 : (bs c).isEmpty with _ | _
  · have h1' : c.toList.isEmpty = false := by rw [bs_empty, h1]
    rcases h2 : plainB c 160 with _ | _
    · go_enter Tryd.func43, Tryd.ntmps43
      go_wp2_with (go_at_call 62; refine (l33Plain_any _ _ _ hc).mono ?_; rintro e w' ⟨rfl, rfl⟩)
      go_ret
      exact ⟨ret_bool (by unfold goodB; simp [h2]), below_box _ _⟩
    · rcases h3 : has 64 (bs c) with _ | _
      all_goals
        go_enter Tryd.func43, Tryd.ntmps43
        go_wp2_with (first | (go_at_call 63; refine (l1Stands_any _ _ _ hc).mono ?_; rintro e w' ⟨rfl, rfl⟩) | (go_at_call 62; refine (l33Plain_any _ _ _ (by assumption)).mono ?_; rintro e w' ⟨rfl, rfl⟩))
        go_ret
        exact ⟨ret_bool (by unfold goodB; rw [h1, h2, h3]; rfl), below_box _ _⟩
  · have h1' : c.toList.isEmpty = true := by rw [bs_empty, h1]
    go_enter Tryd.func43, Tryd.ntmps43
    go_wp2
    go_ret
    exact ⟨ret_bool (by unfold goodB; rw [h1]; rfl), below_box _ _⟩

set_option maxHeartbeats 400000 in
theorem specValid_any (c r : ByteArray) (w : World) (hc : c.size ≤ maxLen) (hr : r.size ≤ maxLen) :
    Calls Tryd.prog 40 #[.agg #[.string c, .string r]] w (Bl w (.bool (goodB c r))) := by
  go_enter Tryd.func40, Tryd.ntmps40
  go_wp2_with (go_at_call 43; refine (l33Good_any _ _ _ hc hr).mono ?_; rintro e w1 ⟨rfl, hb1⟩)
  go_ret
  exact ⟨rfl, below_next (below_box _ _) hb1 rfl⟩

set_option maxHeartbeats 400000 in
theorem toRec_any (c r : ByteArray) (w : World) :
    Calls Tryd.prog 15 #[.agg #[.string c, .string r]] w (Bl w (.agg #[.string c, .string r])) := by
  go_enter Tryd.func15, Tryd.ntmps15
  go_wp2
  exact bodyPost_ret (v := .agg #[.string c, .string r]) (by simp [results, Tryd.results15, go_sem]) rfl ⟨rfl, below_box3 _ _ _ _⟩

/-- What szLogRecord answers. -/
def recSize (c r : ByteArray) (left : Int) : Int := if left - c.size < 0 then -1 else if left - c.size - r.size < 0 then -1 else left - c.size - r.size
set_option maxHeartbeats 400000 in
theorem szRec_any (c r : ByteArray) (left : Int) (w : World) (hc : c.size ≤ maxLen) (hr : r.size ≤ maxLen) (h0 : 0 ≤ left) (h1 : left ≤ 1048576) :
    Calls Tryd.prog 13 #[.agg #[.string c, .string r], .int .i64 left] w (Bl w (.int .i64 (recSize c r left))) := by
  unfold maxLen at hc hr
  by_cases h2 : left - c.size < 0
  · go_enter Tryd.func13, Tryd.ntmps13
    go_wp2
    go_ret
    exact ⟨ret_int (by unfold recSize; rw [if_pos h2]), below_box _ _⟩
  · by_cases h3 : left - c.size - r.size < 0
    all_goals
      go_enter Tryd.func13, Tryd.ntmps13
      go_wp2
      go_ret
      exact ⟨ret_int (by unfold recSize; rw [if_neg (by omega)]; first | rw [if_pos (by omega)] | rw [if_neg (by omega)]), below_box _ _⟩
theorem recSize_ok {c r : ByteArray} {left : Int} (h : ¬ recSize c r left < 0) : (c.size : Int) + r.size ≤ left := by
  unfold recSize at h
  split at h
  · omega
  · split at h <;> omega

end Go.Proofs.YteogfjddkaodkaaDoor
