
/- Walks: strings.Cut at one byte; VerifyChecksum. -/
import Derived.Test.YteogfjddkaodkaaDoorSplit
import Derived.Lib.IndexLaws
import Derived.RegionTactic
import Derived.ChangeAlike
namespace Go.Proofs.YteogfjddkaodkaaDoor
open Go.RowKit

theorem str_eq (a b : ByteArray) : (a.toList == b.toList) = decide (bs a = bs b) := by
  rw [ByteArray.toList_eq, ByteArray.toList_eq]
  unfold bs
  rw [Bool.eq_iff_iff]
  simp
def CutR (w : World) (s : ByteArray) (b : UInt8) (e : Ending) (w' : World) : Prop := ∃ x y f, e = .returned (.tuple #[.string x, .string y, .bool f]) ∧ ((b ∈ bs s ∧ f = true) ∨ (b ∉ bs s ∧ f = false)) ∧ bs x = (cutAt b (bs s)).1 ∧ bs y = (cutAt b (bs s)).2 ∧ Drawn w w'
theorem indexByte_cases (l : Bs) (b : UInt8) : (Lib.indexByte l b = -1 ∧ b ∉ l) ∨ ∃ i : Nat, Lib.indexByte l b = i ∧ i < l.length ∧ l[i]? = some b ∧ cutAt b l = (l.take i, l.drop (i + 1)) := by
  by_cases h : b ∈ l
  · right
    obtain ⟨a, x, rfl, hn⟩ := split_at l h
    exact ⟨a.length, indexByte_app hn, by simp, by simp, by rw [cutAt_app hn]; simp⟩
  · left
    refine ⟨?_, h⟩
    have h1 := Lib.indexByte_ge l b
    by_cases h2 : Lib.indexByte l b = -1
    · exact h2
    · obtain ⟨i, hi⟩ := Int.eq_ofNat_of_zero_le (a := Lib.indexByte l b) (by omega)
      exact absurd (List.mem_of_getElem? (Lib.indexByte_some hi).1) h

set_option maxHeartbeats 1000000 in
theorem liteCut_any (s : ByteArray) (b : UInt8) (w : World) (hs : s.size ≤ 1073741824) :
    Calls Tryd.prog 91 #[.string s, .string ⟨#[b]⟩] w (CutR w s b) := by
  rcases indexByte_cases (bs s) b with ⟨h1, h2⟩ | ⟨i, h1, h2, h3, h4⟩
  · have HI : Hid (Lib.indexByte s.data.toList b = -1) := h1
    have HN := Lib.hid h2
    go_enter Tryd.func91, Tryd.ntmps91
    go_wp2_with (go_at_call 83; refine (Tryd.stringslite_Index_one _ _ _).mono ?_; rintro e w' ⟨rfl, rfl⟩; rw [HI.out])
    go_ret3
    exact ⟨_, _, _, rfl, .inr ⟨HN.out, rfl⟩, by rw [cutAt_no HN.out], by rw [cutAt_no HN.out]; rfl, Drawn.zero _⟩
  · have HI : Hid (Lib.indexByte s.data.toList b = i) := h1
    have HM : Hid (b ∈ bs s) := List.mem_of_getElem? h3
    have HC := Lib.hid h4
    have h2' : i < s.size := h2
    have c1 : (0 : Int) ≤ ↑i := by omega
    have c2 : (↑i : Int) ≤ ↑s.size := by omega
    have c3 : (0 : Int) ≤ ↑i + 1 := by omega
    have c4 : (↑i + 1 : Int) ≤ ↑s.size := by omega
    clear h1 h3 h4
    go_enter Tryd.func91, Tryd.ntmps91
    go_wp2_with (go_at_call 83; refine (Tryd.stringslite_Index_one _ _ _).mono ?_; rintro e w' ⟨rfl, rfl⟩; rw [HI.out])
    go_region
    go_wp2
    go_ret3
    refine ⟨_, _, _, rfl, .inl ⟨HM.out, rfl⟩, ?_, ?_, by exact Drawn.at_ _ 1⟩
    · rw [HC.out, bs_ext]
      simp
    · rw [HC.out, bs_ext, List.take_of_length_le (by rw [List.length_drop, size_bs]; omega)]
set_option maxHeartbeats 1000000 in
theorem cut_any (s : ByteArray) (b : UInt8) (w : World) (hs : s.size ≤ 1073741824) :
    Calls Tryd.prog 82 #[.string s, .string ⟨#[b]⟩] w (CutR w s b) := by
  go_enter Tryd.func82, Tryd.ntmps82
  go_wp2_with (go_at_call 91; refine (liteCut_any _ _ _ hs).mono ?_; rintro e w' ⟨x, y, f, rfl, h1, h2, h3, h4⟩)
  go_ret3
  exact ⟨x, y, f, rfl, h1, h2, h3, h4⟩

/-! ## VerifyChecksum -/
def VerE (w : World) (s : ByteArray) (e : Ending) (w' : World) : Prop := ∃ t ok, e = .returned (.tuple #[.string t, .bool ok]) ∧ VerR (bs s) (bs t) ok ∧ Below w.heap.size w w'
theorem lastByte_cases (s : ByteArray) : (Lib.lastIndexByte s 35 = -1 ∧ (35 : UInt8) ∉ bs s) ∨ ∃ i : Nat, Lib.lastIndexByte s 35 = i ∧ i < s.size ∧ (bs s)[i]? = some 35 ∧ ∀ j, i < j → (bs s)[j]? ≠ some 35 := by
  have hget : ∀ j, j < s.size → (bs s)[j]? = some (s.data[j]!) := fun j hj => by
    show s.data.toList[j]? = _
    have hj' : j < s.data.size := hj
    rw [getElem!_pos s.data j hj', Array.getElem?_toList, Array.getElem?_eq_getElem hj']
  have h35 : ∀ x : UInt8, (x.toNat : Int) = 35 ↔ x = 35 := fun x => ⟨fun h => UInt8.toNat_inj.1 (by have : (35 : UInt8).toNat = 35 := rfl; omega), fun h => by rw [h]; rfl⟩
  rcases Lib.lastIndexByte_spec s 35 with ⟨h1, h2⟩ | ⟨i, h1, h2, h3, h4⟩
  · left
    refine ⟨h1, fun hm => ?_⟩
    obtain ⟨j, hj⟩ := List.getElem?_of_mem hm
    have hjl : j < s.size := (List.getElem?_eq_some_iff.1 hj).1
    rw [hget j hjl] at hj
    injection hj with hj
    exact h2 j hjl ((h35 _).2 hj)
  · right
    refine ⟨i, h2, h1, by rw [hget i h1, (h35 _).1 h3], fun j hij hj => ?_⟩
    have hjl : j < s.size := (List.getElem?_eq_some_iff.1 hj).1
    rw [hget j hjl] at hj
    injection hj with hj
    exact h4 j hij hjl ((h35 _).2 hj)
theorem mem_seal (a : Bs) : (35 : UInt8) ∈ sealL a := by simp [sealL]
theorem seal_take {s a : Bs} {i : Nat} (hs : s = sealL a) (hi : s[i]? = some 35) (hl : ∀ j, i < j → s[j]? ≠ some 35) : s.take i = a := by
  have := seal_last hs hi hl
  subst this
  rw [hs]
  simp [sealL]
set_option maxHeartbeats 1000000 in
theorem verify_any (s : ByteArray) (w : World) (hs : s.size ≤ 1073741824) (ht : Tab w) :
    Calls Tryd.prog 80 #[.string s] w (VerE w s) := by
  rcases lastByte_cases s with ⟨h1, h2⟩ | ⟨i, h1, h2, h3, h4⟩
  · have HI := Lib.hid h1
    have HN := Lib.hid h2
    clear h1 h2
    go_enter Tryd.func80, Tryd.ntmps80
    go_wp2_with (go_at_call 89; refine (Tryd.strings_LastIndexByte _ _ (by omega) _).mono ?_; rintro e w' ⟨rfl, rfl⟩; rw [HI.out])
    go_ret2
    exact ⟨_, _, rfl, ⟨fun h => by simp at h, fun _ a _ _ he => HN.out (by rw [he]; exact mem_seal a)⟩, Below.refl _ _⟩
  · have HI := Lib.hid h1
    have HP : Hid (bs (s.extract 0 i) = (bs s).take i) := by show _ = _; rw [bs_ext]; simp
    have HT : Hid (∀ a, bs s = sealL a → (bs s).take i = a) := fun a ha => seal_take ha h3 h4
    have hsz : (s.extract 0 i).size ≤ maxLen := by
      have : (s.extract 0 i).size = (bs (s.extract 0 i)).length := rfl
      rw [this, HP.out, List.length_take]
      unfold maxLen
      omega
    have c1 : (0 : Int) ≤ ↑i := by omega
    have c2 : (↑i : Int) ≤ ↑s.size := by omega
    clear h1 h3 h4
    go_enter Tryd.func80, Tryd.ntmps80
    go_wp2_with (first | (go_at_call 89; refine (Tryd.strings_LastIndexByte _ _ (by omega) _).mono ?_; rintro e w' ⟨rfl, rfl⟩; rw [HI.out]) | fail)
    refine (append_any _ _ hsz ht).mono ?_
    rintro e w1 ⟨t, ok, rfl, har, hb1⟩
    rcases ok with _ | _
    · have HA := Lib.hid (har.2 rfl)
      go_wp2_with fail
      go_ret2
      refine ⟨_, _, rfl, ⟨fun h => by simp at h, fun _ a ha hl he => ?_⟩, hb1⟩
      refine HA.out ?_
      rw [size_bs, HP.out, HT.out a he]
      exact ⟨ha, by omega⟩
    · obtain rfl := har.1 rfl
      clear har
      have hbs : bs (mk (sealL (bs (s.extract 0 i)))) = sealL ((bs s).take i) := by rw [bs_of, HP.out]
      rcases hq : ((mk (sealL (bs (s.extract 0 i)))).toList == s.toList) with _ | _
      · have HQ : Hid (sealL ((bs s).take i) ≠ bs s) := by
          show ¬ _
          rw [str_eq, hbs] at hq
          simpa using hq
        clear hbs
        go_wp2_with fail
        go_ret2
        exact ⟨_, _, rfl, ⟨fun h => by simp at h, fun _ a _ _ he => HQ.out (by rw [HT.out a he]; exact he.symm)⟩, hb1⟩
      · have HQ : Hid (sealL ((bs s).take i) = bs s) := by
          show _ = _
          rw [str_eq, hbs] at hq
          simpa using hq
        clear hbs
        go_wp2_with fail
        go_ret2
        exact ⟨_, _, rfl, ⟨fun _ => by rw [HP.out]; exact HQ.out.symm, fun h => by simp at h⟩, hb1⟩
end Go.Proofs.YteogfjddkaodkaaDoor
