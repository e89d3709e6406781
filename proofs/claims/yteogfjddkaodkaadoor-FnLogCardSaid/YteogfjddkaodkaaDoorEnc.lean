
/- Walks: numerals, checksums, seals, lines: EncodeRecord in the program and in the reference. -/
import Derived.Test.YteogfjddkaodkaaDoorLogL
import Derived.Lib.AppendIntMem
import Derived.Sort.Grow
import Derived.Deep.RegionHeld3
import Derived.IntWalk
import Derived.Laws.Concat
import Derived.Deep.RegionWith
import Derived.Deep.DeepFit
namespace Go.Proofs.YteogfjddkaodkaaDoor
open Go.RowKit

def mk (l : Bs) : ByteArray := ⟨l.toArray⟩
theorem bs_of (l : Bs) : bs (mk l) = l := rfl
theorem mk_of (s : ByteArray) : mk (bs s) = s := bs_inj rfl
theorem mk_eq {s : ByteArray} {l : Bs} (h : bs s = l) : s = mk l := bs_inj h
theorem bs_app (a b : ByteArray) : bs (a ++ b) = bs a ++ bs b := by
  unfold bs
  rw [ByteArray.data_append, Array.toList_append]
theorem bs_ext (s : ByteArray) (i j : Nat) : bs (s.extract i j) = ((bs s).drop i).take (j - i) := Lib.extract_data s i j
theorem size_bs (s : ByteArray) : s.size = (bs s).length := rfl
theorem size_mk (l : Bs) : (mk l).size = l.length := rfl
/-- A concatenation, as the walk meets it. -/
theorem cat (a b : ByteArray) (h : a.size + b.size ≤ 1099511627776) : ∀ w, (Op.stringOp .add a b).run Tryd.prog w = .ok (.string (a ++ b)) w := fun w => run_string_add_sum w a b (by omega)
theorem size_app (a b : ByteArray) : (a ++ b).size = a.size + b.size := by rw [size_bs, bs_app, List.length_append]; rfl
theorem keepc {w w' : World} {p : Addr} {v : Value} (hb : Below w.heap.size w w') (h : w.cell? p = some v) : w'.cell? p = some v := (hb.cell (cell_lt h)).trans h

/-- The library's table of powers of ten reads as its initialiser lays it. -/
def Tab (w : World) : Prop := Lib.TabIs Tryd.prog w "internal/strconv.uint64pow10" .u64 Lib.pow10Tab
theorem Tab.next {w w' : World} (h : Tab w) (hb : Below w.heap.size w w') : Tab w' := (Lib.tabBelow_of_tabIs h) w' hb
theorem Tab.drewN {w : World} (h : Tab w) (n : Nat) : Tab (w.drewN n) := h.next (below_drewN (Below.refl _ _) _)
theorem below_grow (w : World) (os : Array Obj) (k : Nat) : Below w.heap.size w (Sort.grow (w.drewN k) os) := by
  refine ⟨rfl, rfl, rfl, ?_, fun i hi => ?_⟩
  · show w.heap.size ≤ (w.heap ++ os).size
    rw [Array.size_append]; omega
  · show (w.heap ++ os)[i]? = w.heap[i]?
    rw [Array.getElem?_append_left hi]

theorem itoa_any (n : Nat) (hn : n < 9223372036854775807) (w : World) (ht : Tab w) :
    Calls Tryd.prog 46 #[.int .i64 n] w (Bl w (.string (mk (Lib.decDigits n)))) := by
  refine (Tryd.strconv_Itoa (n : Int) (by omega) (by omega) w ht).mono fun _ _ ⟨he, k, os, hw⟩ => ⟨?_, ?_⟩
  · rw [he, Lib.itoa_nonneg]; rfl
  · rw [hw]; exact below_grow _ _ _
theorem itoa_small (n : Nat) (hn : n < 100) (w : World) :
    Calls Tryd.prog 46 #[.int .i64 n] w (Qt w (.string (mk (Lib.decDigits n)))) :=
  (Tryd.strconv_Itoa_small n hn w).mono fun _ _ ⟨he, hw⟩ => ⟨he, 0, hw⟩

/-! ## the reference's numeral -/
theorem digit_piece {i : Nat} (h : i < 10) : ((([48, 49, 50, 51, 52, 53, 54, 55, 56, 57] : Bs).drop i).take (i + 1 - i)) = [UInt8.ofNat (48 + i)] := by
  have : ∀ i : Fin 10, ((([48, 49, 50, 51, 52, 53, 54, 55, 56, 57] : Bs).drop i.val).take (i.val + 1 - i.val)) = [UInt8.ofNat (48 + i.val)] := by decide
  exact this ⟨i, h⟩
theorem num_small {n : Nat} (h : n < 10) : (⟨#[48, 49, 50, 51, 52, 53, 54, 55, 56, 57]⟩ : ByteArray).extract n (n + 1) = mk (Lib.decDigits n) := by
  apply mk_eq
  rw [bs_ext, Lib.decDigits_one h]
  exact digit_piece h
theorem num_big {n : Nat} (h : ¬ n < 10) : mk (Lib.decDigits (n / 10)) ++ (⟨#[48, 49, 50, 51, 52, 53, 54, 55, 56, 57]⟩ : ByteArray).extract (n % 10) (n % 10 + 1) = mk (Lib.decDigits n) := by
  apply mk_eq
  rw [bs_app, bs_ext, bs_of, Lib.decDigits.eq_def n, dif_neg h]
  congr 1
  exact digit_piece (Nat.mod_lt _ (by decide))

set_option maxHeartbeats 1000000 in
theorem l1Num_any (n : Nat) : ∀ (_hn : n < 1000000) (w : World), Calls Tryd.prog 65 #[.int .i64 n] w (Qt w (.string (mk (Lib.decDigits n)))) := by
  induction n using Nat.strongRecOn with
  | _ n ih =>
    intro hn w
    by_cases h10 : n < 10
    · have HD := Lib.hid (num_small h10)
      have hi0 : (0 : Int) ≤ (n : Int) := by omega
      have hi1 : (n : Int) < 10 := by omega
      clear ih
      go_enter Tryd.func65, Tryd.ntmps65
      go_wp2
      go_ret
      exact ⟨ret_str HD.out, 0, rfl⟩
    · have HD := Lib.hid (num_big h10)
      have hr := ih (n / 10) (by omega) (by omega)
      have hi0 : (10 : Int) ≤ (n : Int) := by omega
      have f1 : IntKind.i64.wrap ((n : Int) / 10) = (n : Int) / 10 := IntWalk.i64_in _ (by omega)
      have f2 : (n : Int).tmod 10 = (n : Int) % 10 := rfl
      have f3 : IntKind.i64.wrap ((n : Int) % 10 + 1) = (n : Int) % 10 + 1 := IntWalk.i64_in _ (by omega)
      have b0 : (0 : Int) ≤ (n : Int) % 10 := by omega
      have b1 : (n : Int) % 10 + 1 ≤ 10 := by omega
      have b2 : (n : Int) % 10 ≤ 9 := by omega
      have b3 : (n : Int) % 10 < 10 := by omega
      have b4 : (0 : Int) ≤ (n : Int) % 10 + 1 := by omega
      have b5 : (n : Int) % 10 + 1 ≤ ((⟨#[48, 49, 50, 51, 52, 53, 54, 55, 56, 57]⟩ : ByteArray).size : Int) := b1
      have hsl : ∀ w, (Instr.slice 9 (.string ⟨#[48, 49, 50, 51, 52, 53, 54, 55, 56, 57]⟩) (some (.int .i64 ((n : Int) % 10))) (some (.int .i64 ((n : Int) % 10 + 1))) none).run Tryd.prog w = .ok (.string ((⟨#[48, 49, 50, 51, 52, 53, 54, 55, 56, 57]⟩ : ByteArray).extract (n % 10) (n % 10 + 1))) w := fun w => by
        have := run_slice_string (P := Tryd.prog) (w := w) 9 ⟨#[48, 49, 50, 51, 52, 53, 54, 55, 56, 57]⟩ .i64 .i64 ((n : Int) % 10) ((n : Int) % 10 + 1) Tryd.underlying9 b0 (by omega) b1
        rw [this]
        have e1 : ((n : Int) % 10).toNat = n % 10 := by omega
        have e2 : ((n : Int) % 10 + 1).toNat = n % 10 + 1 := by omega
        rw [e1, e2]
      have hr' : ∀ w, Calls Tryd.prog 65 #[.int .i64 ((n : Int) / 10)] w (Qt w (.string (mk (Lib.decDigits (n / 10))))) := hr
      have kc := cat (mk (Lib.decDigits (n / 10))) ((⟨#[48, 49, 50, 51, 52, 53, 54, 55, 56, 57]⟩ : ByteArray).extract (n % 10) (n % 10 + 1)) (by
        have h1 := dec_len (u := n / 10) (by omega)
        rw [size_mk, size_bs, bs_ext, List.length_take]
        omega)
      clear ih h10
      go_enter Tryd.func65, Tryd.ntmps65
      go_wp2
      go_quiet ((go_at_call 65; (first | exact quiet_one (hr' _) | exact quiet_add (hr' _))))
      go_wp2
      go_ret
      exact ⟨ret_str HD.out, (by first | exact Drawn.zero _ | exact Drawn.at_ _ _ | exact (Drawn.at_ _ _).more _ | exact ((Drawn.at_ _ _).more _).more _)⟩

theorem ret_ib {k : IntKind} {a b : Int} {c d : Bool} (h : a = b) (h' : c = d) : Ending.returned (.tuple #[.int k a, .bool c]) = .returned (.tuple #[.int k b, .bool d]) := by rw [h, h']
theorem ret_sb {a b : ByteArray} {c d : Bool} (h : a = b) (h' : c = d) : Ending.returned (.tuple #[.string a, .bool c]) = .returned (.tuple #[.string b, .bool d]) := by rw [h, h']
/-! ## checksums -/
def SumAt (s : ByteArray) (k h : Nat) : Prop := ((bs s).drop k).foldl sumF h = sumL (bs s)
theorem SumAt.step {s : ByteArray} {k h : Nat} (H : SumAt s k h) (hk : k < s.size) : SumAt s (k + 1) (sumF h s[k]) := by
  unfold SumAt at *; rw [drop_cons s k hk] at H; rw [← H]; rfl
theorem SumAt.done {s : ByteArray} {k h : Nat} (H : SumAt s k h) (hk : ¬ k < s.size) : h = sumL (bs s) := by
  unfold SumAt at *; rw [drop_end s k hk] at H; rw [← H]; rfl
theorem sumF_int (h : Nat) (c : UInt8) : ((sumF h c : Nat) : Int) = (41 * (h : Int) + (c.toNat : Int) + 1) % 999979 := by
  unfold sumF; omega
set_option maxHeartbeats 400000 in
theorem l1Sum_any (s : ByteArray) (w : World) (hs : s.size ≤ maxLen) :
    Calls Tryd.prog 76 #[.string s] w fun e w' => e = .returned (.int .i64 (sumL (bs s))) ∧ w = w' := by
  unfold maxLen at hs
  go_enter Tryd.func76, Tryd.ntmps76
  go_wp2
  go_loop [3, 4] (fun h i => ∃ k t : Nat, k ≤ s.size ∧ i = .int .i64 k ∧ h = .int .i64 t ∧ t < 999979 ∧ SumAt s k t) (fun _ i => s.size - (intOf i).toNat)
  case atStart => exact ⟨0, 7, Nat.zero_le _, rfl, rfl, by decide, rfl⟩
  case round =>
    obtain ⟨k, t, hk, rfl, rfl, ht, H⟩ := hrel
    by_cases hlt : k < s.size
    · have hb := byte_lt s[k]
      have hb0 : (0 : Int) ≤ (s[k].toNat : Int) := by omega
      have hbw := byte64 s[k]
      have HS := Lib.hid (sumF_int t s[k])
      have H' := H.step hlt
      go_wp2
      go_round
      case rel => exact ⟨k + 1, sumF t s[k], by omega, by go_num, by rw [HS.out], sumF_lt _ _, H'⟩
      case measure => simp [intOf]; omega
    · have HD := Lib.hid (H.done hlt)
      go_wp2
      go_ret
      exact ⟨ret_int (by rw [← HD.out]), rfl⟩
set_option maxHeartbeats 400000 in
theorem checksum_any (s : ByteArray) (w : World) (hs : s.size ≤ 4000) :
    Calls Tryd.prog 66 #[.string s] w fun e w' => e = .returned (.tuple #[.int .i64 (sumL (bs s)), .bool true]) ∧ w = w' := by
  go_enter Tryd.func66, Tryd.ntmps66
  go_wp2
  go_loop [4, 5] (fun h i => ∃ k t : Nat, k ≤ s.size ∧ i = .int .i64 k ∧ h = .int .i64 t ∧ t < 999979 ∧ SumAt s k t) (fun _ i => s.size - (intOf i).toNat)
  case atStart => exact ⟨0, 7, Nat.zero_le _, rfl, rfl, by decide, rfl⟩
  case round =>
    obtain ⟨k, t, hk, rfl, rfl, ht, H⟩ := hrel
    by_cases hlt : k < s.size
    · have hb := byte_lt s[k]
      have hb0 : (0 : Int) ≤ (s[k].toNat : Int) := by omega
      have hbw := byte64 s[k]
      have HS := Lib.hid (sumF_int t s[k])
      have H' := H.step hlt
      go_wp2
      go_round
      case rel => exact ⟨k + 1, sumF t s[k], by omega, by go_num, by rw [HS.out], sumF_lt _ _, H'⟩
      case measure => simp [intOf]; omega
    · have HD := Lib.hid (H.done hlt)
      go_wp2
      go_ret2
      exact ⟨ret_ib (by rw [← HD.out]) rfl, rfl⟩
set_option maxHeartbeats 400000 in
theorem checksum_big (s : ByteArray) (w : World) (hs : 4000 < s.size) (hs2 : s.size ≤ maxLen) :
    Calls Tryd.prog 66 #[.string s] w fun e w' => e = .returned (.tuple #[.int .i64 0, .bool false]) ∧ w = w' := by
  unfold maxLen at hs2
  go_enter Tryd.func66, Tryd.ntmps66
  go_wp2
  go_ret2
  exact ⟨rfl, rfl⟩
theorem seal_eq (s : ByteArray) : s ++ (⟨#[35]⟩ : ByteArray) ++ mk (Lib.decDigits (sumL (bs s))) = mk (sealL (bs s)) := by
  apply mk_eq
  rw [bs_app, bs_app, bs_of]
  unfold sealL
  rw [List.append_assoc]; rfl
set_option maxHeartbeats 400000 in
theorem l1Seal_any (s : ByteArray) (w : World) (hs : s.size ≤ 1073741824) :
    Calls Tryd.prog 64 #[.string s] w (Qt w (.string (mk (sealL (bs s))))) := by
  have hlt := sumL_lt (bs s)
  have HE := Lib.hid (seal_eq s)
  have hd := dec_len (u := sumL (bs s)) (by omega)
  have k1 := cat s ⟨#[35]⟩ (by show s.size + 1 ≤ _; omega)
  have k2 := cat (s ++ ⟨#[35]⟩) (mk (Lib.decDigits (sumL (bs s)))) (by rw [size_app, size_mk]; show s.size + 1 + _ ≤ _; omega)
  go_enter Tryd.func64, Tryd.ntmps64
  go_wp2_with (first | (go_at_call 76; refine (l1Sum_any _ _ (by unfold maxLen; omega)).mono ?_; rintro e w' ⟨rfl, rfl⟩) | (go_at_call 65; refine (l1Num_any _ (by omega) _).mono ?_; rintro e w' ⟨rfl, z, rfl⟩))
  go_ret
  exact ⟨ret_str HE.out, (by first | exact Drawn.zero _ | exact Drawn.at_ _ _ | exact (Drawn.at_ _ _).more _ | exact ((Drawn.at_ _ _).more _).more _)⟩
end Go.Proofs.YteogfjddkaodkaaDoor
