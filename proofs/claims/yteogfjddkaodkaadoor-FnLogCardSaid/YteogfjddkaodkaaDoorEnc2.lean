
/- Walks: AppendChecksum; lines; EncodeRecord in the program and in the reference. -/
import Derived.Test.YteogfjddkaodkaaDoorEnc
namespace Go.Proofs.YteogfjddkaodkaaDoor
open Go.RowKit

def AppR (s t : ByteArray) (ok : Bool) : Prop := (ok = true → t = mk (sealL (bs s))) ∧ (ok = false → ¬ ((35 : UInt8) ∉ bs s ∧ s.size ≤ 3900))
def AppE (w : World) (s : ByteArray) (e : Ending) (w' : World) : Prop := ∃ t ok, e = .returned (.tuple #[.string t, .bool ok]) ∧ AppR s t ok ∧ Below w.heap.size w w'
theorem has35 (s : ByteArray) : decide (0 ≤ Lib.indexByte s.data.toList 35) = has 35 (bs s) := has_indexByte 35 (bs s)
set_option maxHeartbeats 1000000 in
theorem append_any (s : ByteArray) (w : World) (hs : s.size ≤ maxLen) (ht : Tab w) :
    Calls Tryd.prog 45 #[.string s] w (AppE w s) := by
  have hlt := sumL_lt (bs s)
  have hd := dec_len (u := sumL (bs s)) (by omega)
  by_cases h1 : s.size ≤ 4000
  · rcases h2 : has 35 (bs s) with _ | _
    · have HC : Hid (decide (0 ≤ Lib.indexByte s.data.toList 35) = false) := by show _ = _; rw [has35, h2]
      have HE := Lib.hid (seal_eq s)
      have k1 := cat s ⟨#[35]⟩ (by show s.size + 1 ≤ _; omega)
      have k2 := cat (s ++ ⟨#[35]⟩) (mk (Lib.decDigits (sumL (bs s)))) (by rw [size_app, size_mk]; show s.size + 1 + _ ≤ _; omega)
      have HR : Hid ((35 : UInt8) ∉ bs s) := fun hm => by
        have := has_mem (c := 35).2 hm
        rw [show ((35 : UInt8).toNat : Int) = 35 from rfl, h2] at this
        exact absurd this (by decide)
      have HZ : Hid ((mk (Lib.decDigits (sumL (bs s)))).size ≤ 6) := hd
      clear h2
      go_enter Tryd.func45, Tryd.ntmps45
      go_wp2_with (first | (go_at_call 66; refine (checksum_any _ _ h1).mono ?_; rintro e w' ⟨rfl, rfl⟩) | (go_at_call 67; refine (Tryd.strings_Contains_one _ _ _).mono ?_; rintro e w' ⟨rfl, rfl⟩; rw [HC.out]) | (go_at_call 46; refine (itoa_any _ (by omega) _ ht).mono ?_; rintro e w1 ⟨rfl, hb1⟩))
      · go_ret2
        exact ⟨_, _, rfl, ⟨fun h => by simp at h, fun _ h => by have := HZ.out; omega⟩, hb1⟩
      · go_ret2
        exact ⟨_, _, rfl, ⟨fun _ => HE.out, fun h => by simp at h⟩, hb1⟩
    · have HC : Hid (decide (0 ≤ Lib.indexByte s.data.toList 35) = true) := by show _ = _; rw [has35, h2]
      have HR : Hid ((35 : UInt8) ∈ bs s) := has_mem (c := 35).1 h2
      go_enter Tryd.func45, Tryd.ntmps45
      go_wp2_with (first | (go_at_call 66; refine (checksum_any _ _ h1).mono ?_; rintro e w' ⟨rfl, rfl⟩) | (go_at_call 67; refine (Tryd.strings_Contains_one _ _ _).mono ?_; rintro e w' ⟨rfl, rfl⟩; rw [HC.out]))
      go_ret2
      exact ⟨_, _, rfl, ⟨fun h => by simp at h, fun _ h => h.1 HR.out⟩, Below.refl _ _⟩
  · go_enter Tryd.func45, Tryd.ntmps45
    go_wp2_with (go_at_call 66; refine (checksum_big _ _ (by omega) hs).mono ?_; rintro e w' ⟨rfl, rfl⟩)
    go_ret2
    exact ⟨_, _, rfl, ⟨fun h => by simp at h, fun _ h => by omega⟩, Below.refl _ _⟩

/-! ## a record's line -/
theorem mk_app (a b : Bs) : mk a ++ mk b = mk (a ++ b) := by apply mk_eq; rw [bs_app]; rfl
theorem body_eq (k : Nat) (c r : ByteArray) : mk (Lib.decDigits k) ++ (⟨#[32]⟩ : ByteArray) ++ c ++ (⟨#[64]⟩ : ByteArray) ++ r = mk (bodyL k (bs c) (bs r)) := by
  apply mk_eq
  simp only [bs_app, bs_of]
  unfold bodyL
  rw [List.append_assoc, List.append_assoc, List.append_assoc]
  rfl
theorem line_mk (k : Nat) (c r : Bs) : mk (sealL (bodyL k c r)) ++ (⟨#[10]⟩ : ByteArray) = mk (lineL k c r) := mk_app _ [10]
theorem good_sz {c r : ByteArray} (h : goodB c r = true) : c.size ≤ 160 ∧ r.size ≤ 200 := by
  rw [goodB_eq] at h
  have := goodL_good h
  exact ⟨this.lc, this.lr⟩

set_option maxHeartbeats 1000000 in
theorem l33Line_any (k : Nat) (c r : ByteArray) (w : World) (hk : k < 1000000) (hc : c.size ≤ 4000) (hr : r.size ≤ 4000) :
    Calls Tryd.prog 44 #[.int .i64 k, .agg #[.string c, .string r]] w (Bl w (.string (mk (lineL k (bs c) (bs r))))) := by
  have hd := dec_len (u := k) hk
  have HB := body_eq k c r
  have hseal := seal_len (l := bodyL k (bs c) (bs r))
  have hbl : (bodyL k (bs c) (bs r)).length ≤ 8010 := by
    simp only [bodyL, List.length_append, List.length_cons]
    have h1 : (bs c).length ≤ 4000 := hc
    have h2 : (bs r).length ≤ 4000 := hr
    omega
  have hb := below_box w (.cells #[.string c, .string r] 27)
  have BX := Blk.new w 27 #[.string c, .string r]
  have c0 := BX.cell 0
  have c1 := BX.cell 1
  simp at c0 c1
  have k1 := cat (mk (Lib.decDigits k)) ⟨#[32]⟩ (by rw [size_mk]; show _ + 1 ≤ _; omega)
  have k2 := cat (mk (Lib.decDigits k) ++ ⟨#[32]⟩) c (by rw [size_app, size_mk]; show _ + 1 + _ ≤ _; omega)
  have k3 := cat (mk (Lib.decDigits k) ++ ⟨#[32]⟩ ++ c) ⟨#[64]⟩ (by rw [size_app, size_app, size_mk]; show _ + 1 + _ + 1 ≤ _; omega)
  have k4 := cat (mk (Lib.decDigits k) ++ ⟨#[32]⟩ ++ c ++ ⟨#[64]⟩) r (by rw [size_app, size_app, size_app, size_mk]; show _ + 1 + _ + 1 + _ ≤ _; omega)
  have k5 := cat (mk (sealL (bodyL k (bs c) (bs r)))) ⟨#[10]⟩ (by rw [size_mk]; show _ + 1 ≤ _; omega)
  rw [HB] at k4
  have HL := Lib.hid (line_mk k (bs c) (bs r))
  have hsl := fun (W : World) => l1Seal_any (mk (bodyL k (bs c) (bs r))) W (by rw [size_mk]; omega)
  rw [bs_of] at hsl
  clear HB
  go_enter Tryd.func44, Tryd.ntmps44
  go_wp2
  go_quiet ((first | (go_at_call 65; first | exact quiet_one (l1Num_any _ hk _) | exact quiet_add (l1Num_any _ hk _)) | (go_at_call 64; first | exact quiet_one (hsl _) | exact quiet_add (hsl _))))
  go_wp2
  go_ret
  exact ⟨ret_str HL.out, (by first | exact hb | exact below_drewN (hb) _ | exact below_drewN (below_drewN (hb) _) _ | exact below_drewN (below_drewN (below_drewN (hb) _) _) _)⟩
def encB (k : Int) (c r : ByteArray) : Bool := inB k 0 59 && goodB c r
def encS (k : Int) (c r : ByteArray) : ByteArray := if encB k c r then mk (lineL k.toNat (bs c) (bs r)) else ⟨#[]⟩
theorem encS_yes {k : Int} {c r : ByteArray} (h : encB k c r = true) : encS k c r = mk (lineL k.toNat (bs c) (bs r)) := by unfold encS; rw [if_pos h]
theorem encS_no {k : Int} {c r : ByteArray} (h : encB k c r = false) : encS k c r = ⟨#[]⟩ := by unfold encS; rw [h]; rfl
end Go.Proofs.YteogfjddkaodkaaDoor
