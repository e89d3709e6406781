
/- Walks and plain laws of records and logs (joined by genlg.py out of the texts of the log family; a namespace of their own). -/
import Derived.Test.YtbonebpheimbaaaGreatDoorLg1
import Derived.StillTailTactics
import Derived.Lib.IndexLaws
import Derived.RegionTactic
import Derived.ChangeAlike
namespace Go.Proofs.YtbonebpheimbaaaGreatDoor.Lg
open Go.RowKit

theorem info_string : (Tryz.prog.info? 9).map (fun i => (i.zero, i.size, i.bytes)) = some (some (.string ⟨#[]⟩), 1, 16) := by kernel_rfl
def strs (l : List Bs) : List Value := l.map fun s => .string (mk s)
theorem strs_snoc (l : List Bs) (s : Bs) : strs (l ++ [s]) = strs l ++ [.string (mk s)] := by simp [strs]
def RSb (_ : World) (v : Value) (x : Bs) : Prop := v = .string (mk x)
theorem stab_RSb : Stab RSb := fun _ _ _ _ _ h => h

def SplAt (b : UInt8) (l : Bs) (out : List Bs) (q i : Nat) : Prop := out ++ splitL b (l.drop q) = splitL b l ∧ ∀ j, q ≤ j → j < i → l[j]? ≠ some b
theorem SplAt.start (b : UInt8) (l : Bs) : SplAt b l [] 0 0 := ⟨by simp, fun j _ h => by omega⟩
theorem SplAt.skip {b : UInt8} {l : Bs} {out : List Bs} {q i : Nat} (h : SplAt b l out q i) (hi : l[i]? ≠ some b) : SplAt b l out q (i + 1) := by
  refine ⟨h.1, fun j h1 h2 => ?_⟩
  rcases Nat.lt_or_ge j i with h3 | h3
  · exact h.2 j h1 h3
  · have : j = i := by omega
    subst this
    exact hi
theorem not_mem_piece {b : UInt8} {l : Bs} {q i : Nat} (h : ∀ j, q ≤ j → j < i → l[j]? ≠ some b) : b ∉ (l.drop q).take (i - q) := fun hm => by
  obtain ⟨j, hj⟩ := List.getElem?_of_mem hm
  rw [List.getElem?_take] at hj
  split at hj
  · rw [List.getElem?_drop] at hj
    exact h (q + j) (by omega) (by omega) hj
  · cases hj
theorem SplAt.cut {b : UInt8} {l : Bs} {out : List Bs} {q i : Nat} (h : SplAt b l out q i) (hq : q ≤ i) (hi : l[i]? = some b) : SplAt b l (out ++ [(l.drop q).take (i - q)]) (i + 1) (i + 1) := by
  refine ⟨?_, fun j h1 h2 => by omega⟩
  have hlt := (List.getElem?_eq_some_iff.1 hi).1
  have e : l.drop q = (l.drop q).take (i - q) ++ b :: l.drop (i + 1) := by
    have h1 := List.take_append_drop (i - q) (l.drop q)
    rw [List.drop_drop, show q + (i - q) = i by omega, List.drop_eq_getElem_cons hlt] at h1
    have h2 : l[i] = b := (List.getElem?_eq_some_iff.1 hi).2
    rw [h2] at h1
    exact h1.symm
  have hn := not_mem_piece h.2
  obtain ⟨X, hX⟩ : ∃ X, X = (l.drop q).take (i - q) := ⟨_, rfl⟩
  rw [← hX] at e hn ⊢
  rw [← h.1, e, splitL_app hn]
  simp
theorem SplAt.done {b : UInt8} {l : Bs} {out : List Bs} {q i : Nat} (h : SplAt b l out q i) (hi : l.length ≤ i) : splitL b l = out ++ [l.drop q] := by
  rw [← h.1, splitL_no]
  intro hm
  obtain ⟨j, hj⟩ := List.getElem?_of_mem hm
  rw [List.getElem?_drop] at hj
  have := (List.getElem?_eq_some_iff.1 hj).1
  exact h.2 (q + j) (by omega) (by omega) hj

theorem ret_sl {A : Option Addr} {n m c : Nat} (h : n = m) : Ending.returned (.slice A n c) = .returned (.slice A m c) := by rw [h]
def SplitR (w : World) (l : List Bs) (e : Ending) (w' : World) : Prop := ∃ A c, e = .returned (.slice A l.length c) ∧ RdL RSb w' A l.length l ∧ Below w.heap.size w w'
def SplitO (w : World) (l : List Bs) (e : Ending) (w' : World) : Prop := ∃ A c, e = .returned (.slice A l.length c) ∧ w'.ownsRow w.heap.size 9 1 (.slice A l.length c) l.length (strs l) ∧ Below w.heap.size w w' ∧ l.length ≤ maxLen
/-- An own row of another element type stays when one row grows. -/
theorem own_other {w w' : World} {b1 b2 e1 e2 s1 s2 n1 n2 : Nat} {v1 v2 : Value} {x1 x2 : List Value} (h1 : w.ownsRow b1 e1 s1 v1 n1 x1) (h2 : w.ownsRow b2 e2 s2 v2 n2 x2) (he : e1 ≠ e2) (hg : w.grownBy w' v2.ownBlock) : w'.ownsRow b1 e1 s1 v1 n1 x1 := by
  refine ⟨h1.1, ?_⟩
  rcases h1.2 with h | ⟨g, cap, cur, hv, hb, hc, rest⟩
  · exact .inl h
  · refine .inr ⟨g, cap, cur, hv, hb, ?_, rest⟩
    rw [hg.block g (Array.getElem?_eq_some_iff.1 hc).1 ?_]
    · exact hc
    · intro hk
      rcases h2.2 with ⟨rfl, -⟩ | ⟨g2, cap2, cur2, rfl, -, hc2, -⟩
      · simp [Value.ownBlock] at hk
      · simp only [Value.ownBlock, Option.some.injEq] at hk
        subst hk
        rw [hc] at hc2
        injection hc2 with hc2
        injection hc2 with _ h3 _
        exact he h3
theorem rd_strs {w : World} {base n c : Nat} {A : Option Addr} {l : List Bs} (hn : n ≤ maxLen) (h : w.ownsRow base 9 1 (.slice A n c) n (strs l)) (hl : l.length = n) : RdL RSb w A n l := by
  obtain ⟨A', c', e, hr⟩ := RdL.ofOwn (R := RSb) hn h hl (fun k x hk => ⟨.string (mk x), by simp [strs, hk], rfl⟩)
  injection e with e1 e2 e3
  subst e1
  exact hr

set_option maxHeartbeats 1000000 in
theorem l1Split_own (s : ByteArray) (b : UInt8) (c : Int) (hbc : (b.toNat : Int) = c) (w : World) (hs : s.size ≤ 1073741824) :
    Calls Tryz.prog 87 #[.string s, .int .u8 c] w (SplitO w (splitL b (bs s))) := by
  subst hbc
  go_enter Tryz.func87, Tryz.ntmps87
  go_wp2
  go_loopw [5, 6, 7] (fun v f i wr => ∃ (k q m : Nat) (out : List Bs) (A : Option Addr) (c : Nat), k ≤ s.size ∧ q ≤ k ∧ m ≤ k ∧ i = .int .i64 k ∧ f = .int .i64 q ∧ v = .slice A m c ∧ out.length = m ∧ wr.ownsRow w.heap.size 9 1 (.slice A m c) m (strs out) ∧ SplAt b (bs s) out q k ∧ Below w.heap.size w wr) (fun _ _ i _ => s.size - (intOf i).toNat)
  case atStart => exact ⟨0, 0, 0, [], _, _, Nat.zero_le _, Nat.le_refl _, Nat.le_refl _, rfl, rfl, rfl, rfl, World.ownsRow_lit _ _ _ (Nat.le_refl _) (Nat.zero_le _) rfl, SplAt.start _ _, below_box _ _⟩
  case round =>
    obtain ⟨k, q, m, out, A, c, hk, hqk, hmk, rfl, rfl, rfl, hml, hown, H, hT⟩ := hrel
    have HML := Lib.hid hml
    clear hml
    have hbase := hT.size
    by_cases hlt : k < s.size
    · have HG : Hid ((bs s)[k]? = some s[k]) := by
        show (s.data.toList)[k]? = _
        rw [List.getElem?_eq_getElem (by exact hlt)]
        rfl
      rcases hb : ((s[k].toNat : Int) == (b.toNat : Int)) with _ | _
      · have HN : Hid ((bs s)[k]? ≠ some b) := by
          show ¬ _
          rw [HG.out]
          rintro h
          injection h with h
          rw [h] at hb
          simp at hb
        go_wp2
        go_roundw
        case rel => exact ⟨k + 1, q, m, out, A, c, by omega, by omega, by omega, by go_num, rfl, rfl, HML.out, hown, H.skip HN.out, hT⟩
        case measure => simp [intOf]; omega
      · have HY : Hid ((bs s)[k]? = some b) := by
          show _ = _
          rw [HG.out]
          have : s[k].toNat = b.toNat := by have := beq_iff_eq.1 hb; omega
          rw [UInt8.toNat_inj.1 this]
        have HP : Hid (s.extract q k = mk (((bs s).drop q).take (k - q))) := by
          show _ = _
          apply mk_eq
          rw [bs_ext]
        have hq0 : (0 : Int) ≤ (q : Int) := by omega
        have hqk' : (q : Int) ≤ (k : Int) := by omega
        have hk0 : (0 : Int) ≤ (k : Int) := by omega
        have hks : (k : Int) ≤ (s.size : Int) := by omega
        go_wp2_with (at_builtin; refine app1 wr rfl _ _ 85 9 rfl (.string ⟨#[]⟩) 16 Tryz.underlying85 info_string rfl (by decide) w.heap.size m c A (strs out) rfl hown (.string (s.extract q k)) rfl rfl (by omega) hbase ?_; intro A3 c3 w3 hown3 hg3 hb3)
        go_roundw
        case rel => exact ⟨k + 1, k + 1, m + 1, out ++ [((bs s).drop q).take (k - q)], A3, c3, by omega, by omega, by omega, by go_num, by go_num, rfl, by rw [List.length_append, HML.out]; rfl, by rw [strs_snoc, ← HP.out]; exact hown3, H.cut hqk HY.out, hT.trans hb3⟩
        case measure => simp [intOf]; omega
    · obtain rfl : k = s.size := by omega
      have HP : Hid (s.extract q s.size = mk ((bs s).drop q)) := by
        show _ = _
        apply mk_eq
        rw [bs_ext, List.take_of_length_le (by rw [List.length_drop, size_bs]; omega)]
      have HD := Lib.hid (H.done (Nat.le_refl _))
      have hq0 : (0 : Int) ≤ (q : Int) := by omega
      have hqk' : (q : Int) ≤ (s.size : Int) := by omega
      go_wp2_with (at_builtin; refine app1 wr rfl _ _ 85 9 rfl (.string ⟨#[]⟩) 16 Tryz.underlying85 info_string rfl (by decide) w.heap.size m c A (strs out) rfl hown (.string (s.extract q s.size)) rfl rfl (by omega) hbase ?_; intro A3 c3 w3 hown3 hg3 hb3)
      go_ret
      have hl : (splitL b (bs s)).length = m + 1 := by rw [HD.out, List.length_append, HML.out]; rfl
      refine ⟨A3, c3, ret_sl hl.symm, ?_, hT.trans hb3, by unfold maxLen; omega⟩
      rw [hl]
      rw [HD.out, strs_snoc, ← HP.out]
      exact hown3
theorem l1Split_any (s : ByteArray) (b : UInt8) (c : Int) (hbc : (b.toNat : Int) = c) (w : World) (hs : s.size ≤ 1073741824) :
    Calls Tryz.prog 87 #[.string s, .int .u8 c] w (SplitR w (splitL b (bs s))) := by
  refine (l1Split_own s b c hbc w hs).mono ?_
  rintro e w' ⟨A, c, rfl, ho, hb, hm⟩
  exact ⟨A, c, rfl, rd_strs hm ho rfl, hb⟩
end Go.Proofs.YtbonebpheimbaaaGreatDoor.Lg
namespace Go.Proofs.YtbonebpheimbaaaGreatDoor.Lg
open Go.RowKit

theorem str_eq (a b : ByteArray) : (a.toList == b.toList) = decide (bs a = bs b) := by
  rw [ByteArray.toList_eq, ByteArray.toList_eq]
  unfold bs
  rw [Bool.eq_iff_iff]
  simp
def CutR (w : World) (s : ByteArray) (b : UInt8) (e : Ending) (w' : World) : Prop := ∃ x y f, e = .returned (.tuple #[.string x, .string y, .bool f]) ∧ ((b ∈ bs s ∧ f = true) ∨ (b ∉ bs s ∧ f = false)) ∧ bs x = (cutAt b (bs s)).1 ∧ bs y = (cutAt b (bs s)).2 ∧ Drawn w w'
theorem indexByte_cases (l : Bs) (b : UInt8) : (Lib.indexByte l b = -1 ∧ b ∉ l) ∨ ∃ i : Nat, Lib.indexByte l b = i ∧ i < l.length ∧ l[i]? = some b ∧ cutAt b l = (l.take i, l.drop (i + 1)) := by
  by_cases h : b ∈ l
  · right
    obtain ⟨a, x, rfl, hn⟩ := split_at l h
    exact ⟨a.length, indexByte_app hn, by simp, by simp, by rw [cutAt_app hn]; simp⟩
  · left
    refine ⟨?_, h⟩
    have h1 := Lib.indexByte_ge l b
    by_cases h2 : Lib.indexByte l b = -1
    · exact h2
    · obtain ⟨i, hi⟩ := Int.eq_ofNat_of_zero_le (a := Lib.indexByte l b) (by omega)
      exact absurd (List.mem_of_getElem? (Lib.indexByte_some hi).1) h

set_option maxHeartbeats 1000000 in
theorem liteCut_any (s : ByteArray) (b : UInt8) (w : World) (hs : s.size ≤ 1073741824) :
    Calls Tryz.prog 163 #[.string s, .string ⟨#[b]⟩] w (CutR w s b) := by
  rcases indexByte_cases (bs s) b with ⟨h1, h2⟩ | ⟨i, h1, h2, h3, h4⟩
  · have HI : Hid (Lib.indexByte s.data.toList b = -1) := h1
    have HN := Lib.hid h2
    go_enter Tryz.func163, Tryz.ntmps163
    go_wp2_with (go_at_call 174; refine (Tryz.stringslite_Index_one _ _ _).mono ?_; rintro e w' ⟨rfl, rfl⟩; rw [HI.out])
    go_ret3
    exact ⟨_, _, _, rfl, .inr ⟨HN.out, rfl⟩, by rw [cutAt_no HN.out], by rw [cutAt_no HN.out]; rfl, Drawn.zero _⟩
  · have HI : Hid (Lib.indexByte s.data.toList b = i) := h1
    have HM : Hid (b ∈ bs s) := List.mem_of_getElem? h3
    have HC := Lib.hid h4
    have h2' : i < s.size := h2
    have c1 : (0 : Int) ≤ ↑i := by omega
    have c2 : (↑i : Int) ≤ ↑s.size := by omega
    have c3 : (0 : Int) ≤ ↑i + 1 := by omega
    have c4 : (↑i + 1 : Int) ≤ ↑s.size := by omega
    clear h1 h3 h4
    go_enter Tryz.func163, Tryz.ntmps163
    go_wp2_with (go_at_call 174; refine (Tryz.stringslite_Index_one _ _ _).mono ?_; rintro e w' ⟨rfl, rfl⟩; rw [HI.out])
    go_region
    go_wp2
    go_ret3
    refine ⟨_, _, _, rfl, .inl ⟨HM.out, rfl⟩, ?_, ?_, by exact Drawn.at_ _ 1⟩
    · rw [HC.out, bs_ext]
      simp
    · rw [HC.out, bs_ext, List.take_of_length_le (by rw [List.length_drop, size_bs]; omega)]
set_option maxHeartbeats 1000000 in
theorem cut_any (s : ByteArray) (b : UInt8) (w : World) (hs : s.size ≤ 1073741824) :
    Calls Tryz.prog 143 #[.string s, .string ⟨#[b]⟩] w (CutR w s b) := by
  go_enter Tryz.func143, Tryz.ntmps143
  go_wp2_with (go_at_call 163; refine (liteCut_any _ _ _ hs).mono ?_; rintro e w' ⟨x, y, f, rfl, h1, h2, h3, h4⟩)
  go_ret3
  exact ⟨x, y, f, rfl, h1, h2, h3, h4⟩

/-! ## VerifyChecksum -/
def VerE (w : World) (s : ByteArray) (e : Ending) (w' : World) : Prop := ∃ t ok, e = .returned (.tuple #[.string t, .bool ok]) ∧ VerR (bs s) (bs t) ok ∧ Below w.heap.size w w'
theorem lastByte_cases (s : ByteArray) : (Lib.lastIndexByte s 35 = -1 ∧ (35 : UInt8) ∉ bs s) ∨ ∃ i : Nat, Lib.lastIndexByte s 35 = i ∧ i < s.size ∧ (bs s)[i]? = some 35 ∧ ∀ j, i < j → (bs s)[j]? ≠ some 35 := by
  have hget : ∀ j, j < s.size → (bs s)[j]? = some (s.data[j]!) := fun j hj => by
    show s.data.toList[j]? = _
    have hj' : j < s.data.size := hj
    rw [getElem!_pos s.data j hj', Array.getElem?_toList, Array.getElem?_eq_getElem hj']
  have h35 : ∀ x : UInt8, (x.toNat : Int) = 35 ↔ x = 35 := fun x => ⟨fun h => UInt8.toNat_inj.1 (by have : (35 : UInt8).toNat = 35 := rfl; omega), fun h => by rw [h]; rfl⟩
  rcases Lib.lastIndexByte_spec s 35 with ⟨h1, h2⟩ | ⟨i, h1, h2, h3, h4⟩
  · left
    refine ⟨h1, fun hm => ?_⟩
    obtain ⟨j, hj⟩ := List.getElem?_of_mem hm
    have hjl : j < s.size := (List.getElem?_eq_some_iff.1 hj).1
    rw [hget j hjl] at hj
    injection hj with hj
    exact h2 j hjl ((h35 _).2 hj)
  · right
    refine ⟨i, h2, h1, by rw [hget i h1, (h35 _).1 h3], fun j hij hj => ?_⟩
    have hjl : j < s.size := (List.getElem?_eq_some_iff.1 hj).1
    rw [hget j hjl] at hj
    injection hj with hj
    exact h4 j hij hjl ((h35 _).2 hj)
theorem mem_seal (a : Bs) : (35 : UInt8) ∈ sealL a := by simp [sealL]
theorem seal_take {s a : Bs} {i : Nat} (hs : s = sealL a) (hi : s[i]? = some 35) (hl : ∀ j, i < j → s[j]? ≠ some 35) : s.take i = a := by
  have := seal_last hs hi hl
  subst this
  rw [hs]
  simp [sealL]
set_option maxHeartbeats 1000000 in
theorem verify_any (s : ByteArray) (w : World) (hs : s.size ≤ 1073741824) (ht : Tab w) :
    Calls Tryz.prog 141 #[.string s] w (VerE w s) := by
  rcases lastByte_cases s with ⟨h1, h2⟩ | ⟨i, h1, h2, h3, h4⟩
  · have HI := Lib.hid h1
    have HN := Lib.hid h2
    clear h1 h2
    go_enter Tryz.func141, Tryz.ntmps141
    go_wp2_with (go_at_call 160; refine (Tryz.strings_LastIndexByte _ _ (by omega) _).mono ?_; rintro e w' ⟨rfl, rfl⟩; rw [HI.out])
    go_ret2
    exact ⟨_, _, rfl, ⟨fun h => by simp at h, fun _ a _ _ he => HN.out (by rw [he]; exact mem_seal a)⟩, Below.refl _ _⟩
  · have HI := Lib.hid h1
    have HP : Hid (bs (s.extract 0 i) = (bs s).take i) := by show _ = _; rw [bs_ext]; simp
    have HT : Hid (∀ a, bs s = sealL a → (bs s).take i = a) := fun a ha => seal_take ha h3 h4
    have hsz : (s.extract 0 i).size ≤ maxLen := by
      have : (s.extract 0 i).size = (bs (s.extract 0 i)).length := rfl
      rw [this, HP.out, List.length_take]
      unfold maxLen
      omega
    have c1 : (0 : Int) ≤ ↑i := by omega
    have c2 : (↑i : Int) ≤ ↑s.size := by omega
    clear h1 h3 h4
    go_enter Tryz.func141, Tryz.ntmps141
    go_wp2_with (first | (go_at_call 160; refine (Tryz.strings_LastIndexByte _ _ (by omega) _).mono ?_; rintro e w' ⟨rfl, rfl⟩; rw [HI.out]) | fail)
    refine (append_any _ _ hsz ht).mono ?_
    rintro e w1 ⟨t, ok, rfl, har, hb1⟩
    rcases ok with _ | _
    · have HA := Lib.hid (har.2 rfl)
      go_wp2_with fail
      go_ret2
      refine ⟨_, _, rfl, ⟨fun h => by simp at h, fun _ a ha hl he => ?_⟩, hb1⟩
      refine HA.out ?_
      rw [size_bs, HP.out, HT.out a he]
      exact ⟨ha, by omega⟩
    · obtain rfl := har.1 rfl
      clear har
      have hbs : bs (mk (sealL (bs (s.extract 0 i)))) = sealL ((bs s).take i) := by rw [bs_of, HP.out]
      rcases hq : ((mk (sealL (bs (s.extract 0 i)))).toList == s.toList) with _ | _
      · have HQ : Hid (sealL ((bs s).take i) ≠ bs s) := by
          show ¬ _
          rw [str_eq, hbs] at hq
          simpa using hq
        clear hbs
        go_wp2_with fail
        go_ret2
        exact ⟨_, _, rfl, ⟨fun h => by simp at h, fun _ a _ _ he => HQ.out (by rw [HT.out a he]; exact he.symm)⟩, hb1⟩
      · have HQ : Hid (sealL ((bs s).take i) = bs s) := by
          show _ = _
          rw [str_eq, hbs] at hq
          simpa using hq
        clear hbs
        go_wp2_with fail
        go_ret2
        exact ⟨_, _, rfl, ⟨fun _ => by rw [HP.out]; exact HQ.out.symm, fun h => by simp at h⟩, hb1⟩
end Go.Proofs.YtbonebpheimbaaaGreatDoor.Lg
namespace Go.Proofs.YtbonebpheimbaaaGreatDoor.Lg
open Go.RowKit

theorem res_row_tmp {P : Program} {fn : Func} {p u : Tmp} {ty : TypeId} (h : fn.results = #[.cell p ty, .tmp u]) (tmps : Array Value) (w : World) (g : Nat) (t : TypeId) (cs : Array Value) (fr : Nat × Nat) (d : TypeDesc) (b : Value)
    (hp : tmps.getD p undef = .pointer (some ⟨g, 0, none⟩)) (hg : w.heap[g]? = some (.cells cs t fr))
    (hu : P.underlying ty = some d) (hd : (match d with | .struct _ | .array _ _ => true | _ => false) = true) (hi : (P.info? ty).map (·.size) = some cs.size) (hb : tmps.getD u undef = b) :
    (results fn tmps).run P w = .ok (.tuple #[.agg cs, b]) w := by
  rw [results_cell_tmp h, hp, hb]
  simp [asAddr, Result.andThen, run_loadVar_row w g t ty cs fr d hg hu hd hi]
/-- What decoding answers. -/
def DecE (w : World) (k : Nat) (line : Bs) (e : Ending) (w' : World) : Prop := ∃ c r ok, e = .returned (.tuple #[.agg #[.string c, .string r], .bool ok]) ∧ DecR k line (bs c) (bs r) ok ∧ Below w.heap.size w w'
theorem trim_len (l p : Bs) : (Lib.trimSuffix l p).length ≤ l.length := by
  unfold Lib.trimSuffix
  split
  · rw [List.length_take]; omega
  · exact Nat.le_refl _

theorem trim_any (line : ByteArray) (W : World) (hs : line.size ≤ 1073741824) :
    Calls Tryz.prog 142 #[.string line, .string ⟨#[10]⟩] W fun e w' => e = .returned (.string (mk (Lib.trimSuffix (bs line) [10]))) ∧ W = w' :=
  (Tryz.strings_TrimSuffix _ _ _ (by omega)).mono fun _ _ ⟨h1, h2⟩ => ⟨h1, h2.symm⟩
theorem cutAt_len (b : UInt8) : ∀ l : Bs, (cutAt b l).1.length ≤ l.length ∧ (cutAt b l).2.length ≤ l.length
  | [] => ⟨Nat.le_refl _, Nat.le_refl _⟩
  | x :: l => by
    have ih := cutAt_len b l
    rw [cutAt]
    split
    · simp
    · simp; omega
set_option maxRecDepth 20000 in
set_option maxHeartbeats 4000000 in
theorem decode_any (k : Nat) (line : ByteArray) (w : World) (hk : k < 60) (hs : line.size ≤ 1073741824) (ht : Tab w) :
    Calls Tryz.prog 108 #[.int .i64 k, .string line] w (DecE w k (bs line)) := by
  have hb := below_box w (.cells #[.string ⟨#[]⟩, .string ⟨#[]⟩] 131)
  have BX := Blk.new w 131 #[.string ⟨#[]⟩, .string ⟨#[]⟩]
  have htl : (mk (Lib.trimSuffix (bs line) [10])).size ≤ 1073741824 := by rw [size_mk]; have := trim_len (bs line) [10]; have : (bs line).length = line.size := rfl; omega
  go_enter Tryz.func108, Tryz.ntmps108
  go_wp2_with fail
  refine (trim_any _ _ hs).mono ?_
  rintro e w' ⟨rfl, rfl⟩
  go_wp2_with fail
  refine (verify_any _ _ htl (ht.next hb)).mono ?_
  rintro e w2 ⟨s', ok, rfl, hv, hb2⟩
  rw [bs_of] at hv
  have HV := Lib.hid hv
  have hT2 := below_next hb hb2 rfl
  replace BX := BX.next hb2
  clear hb hb2
  rcases ok with _ | _
  · have BN := BX
    have cN0 := BN.cell 0
    have cN1 := BN.cell 1
    have fN0 := BN.frozen 0
    have fN1 := BN.frozen 1
    simp at cN0 cN1
    go_wp2_with fail
    (try simp only [Exit.inBlock, Exit.then])
    refine bodyPost_ret (v := .tuple #[.agg #[.string ⟨#[]⟩, .string ⟨#[]⟩], .bool false]) (res_row_tmp rfl _ _ w.heap.size 131 #[.string ⟨#[]⟩, .string ⟨#[]⟩] (0, 0) _ _ (by simp) ((BN.set_ 0 _).set_ 1 _) Tryz.underlying131 rfl (by kernel_rfl) (by simp)) rfl ?_
    exact ⟨_, _, false, rfl, decode_no hk rfl HV.out (fun h => by simp at h), ((hT2).setCell (Nat.le_refl _) _).setCell (Nat.le_refl _) _⟩
  · have hsl : s'.size ≤ 1073741824 := by
      have h1 := congrArg List.length (hv.1 rfl)
      rw [size_mk] at htl
      have h2 : (bs s').length ≤ (sealL (bs s')).length := by simp [sealL]
      have : (bs s').length = s'.size := rfl
      omega
    clear hv
    go_wp2_with fail
    refine (cut_any s' 32 _ hsl).mono ?_
    rintro e w3 ⟨x1, y1, f1, rfl, hf1, -, hy1, z1, rfl⟩
    have hsl1 : y1.size ≤ 1073741824 := by
      have h1 := congrArg List.length hy1
      have h2 := (cutAt_len 32 (bs s')).2
      have h3 : (bs y1).length = y1.size := rfl
      have h4 : (bs s').length = s'.size := rfl
      omega
    have HF1 := Lib.hid hf1
    have HY1 := Lib.hid hy1
    clear hf1 hy1
    go_wp2_with fail
    refine (cut_any y1 64 _ hsl1).mono ?_
    rintro e w3 ⟨x2, y2, f2, rfl, hf2, hx2, hy2, z2, rfl⟩
    have hsx : x2.size ≤ maxLen ∧ y2.size ≤ maxLen := by
      have h1 := congrArg List.length hx2
      have h2 := congrArg List.length hy2
      have h3 := cutAt_len 64 (bs y1)
      have h4 : (bs y1).length = y1.size := rfl
      have h5 : (bs x2).length = x2.size := rfl
      have h6 : (bs y2).length = y2.size := rfl
      unfold maxLen
      omega
    have HF2 := Lib.hid hf2
    have HX2 := Lib.hid hx2
    have HY2 := Lib.hid hy2
    clear hf2 hx2 hy2
    obtain ⟨w3, hw3⟩ : ∃ w3, Hid (w3 = (w2.drewN z1).drewN z2) := ⟨_, rfl⟩
    have hT3 : Below w.heap.size w w3 := by rw [hw3.out]; exact below_drewN (below_drewN hT2 _) _
    replace BX : Blk w3 w.heap.size 131 #[.string ⟨#[]⟩, .string ⟨#[]⟩] := by rw [hw3.out]; exact (BX.drewN _).drewN _
    have hlt := BX.lt
    have ht3 := ht.next hT3
    rw [← hw3.out]
    clear hw3
    go_wp2_with fail
    have hbe := below_box w3 (.cells #[.string x2, .string y2] 131)
    have BE := Blk.new w3 131 #[.string x2, .string y2]
    have hT4 := below_next hT3 hbe rfl
    replace BX := BX.next hbe
    refine (implEnc_any (k : Int) x2 y2 _ hsx.1 hsx.2 (ht3.next hbe)).mono ?_
    rintro e w5 ⟨rfl, hb5⟩
    have hT5 := below_next hT4 hb5 rfl
    replace BX := BX.next hb5
    replace BE := BE.next hb5
    clear hbe hb5 hT4 hT3 ht3
    obtain ⟨B2, HB2⟩ : ∃ b, Hid (encB (k : Int) x2 y2 = b) := ⟨_, rfl⟩
    obtain ⟨S2, HS2⟩ : ∃ b, Hid (encS (k : Int) x2 y2 = b) := ⟨_, rfl⟩
    rw [HB2.out, HS2.out]
    by_cases hall : f1 = true ∧ f2 = true ∧ B2 = true ∧ (S2.toList == line.toList) = true
    · obtain ⟨rfl, rfl, rfl, hq⟩ := hall
      have HQ : Hid (bs S2 = bs line) := by show _ = _; rw [str_eq] at hq; simpa using hq
      have HG : Hid (goodL (bs x2) (bs y2) = true) := by
        show _ = _
        have := HB2.out
        unfold encB at this
        rw [Bool.and_eq_true] at this
        rw [← goodB_eq]
        exact this.2
      have HL : Hid (lineL k (bs x2) (bs y2) = bs line) := by
        show _ = _
        rw [← HQ.out, ← HS2.out, encS_yes HB2.out, bs_of]
        rfl
      have cE0 := BE.cell 0
      have cE1 := BE.cell 1
      have cX0 := BX.cell 0
      have cX1 := BX.cell 1
      have fX0 := BX.frozen 0
      have fX1 := BX.frozen 1
      simp at cE0 cE1 cX0 cX1
      go_wp2_with fail
      (try simp only [Exit.inBlock, Exit.then])
      refine bodyPost_ret (v := .tuple #[.agg #[.string x2, .string y2], .bool true]) (res_row_tmp rfl _ _ w.heap.size 131 #[.string x2, .string y2] (0, 0) _ _ (by simp) ((BX.set_ 0 _).set_ 1 _) Tryz.underlying131 rfl (by kernel_rfl) (by simp)) rfl ?_
      exact ⟨_, _, true, rfl, DecR.yes HG.out hk HL.out, (hT5.setCell (Nat.le_refl _) _).setCell (Nat.le_refl _) _⟩
    · have HNO : Hid (DecR k (bs line) (bs (⟨#[]⟩ : ByteArray)) (bs (⟨#[]⟩ : ByteArray)) false) := by
        refine decode_no hk rfl HV.out ?_
        rintro ⟨-, h1, h2, h3, h4⟩
        rw [← HY1.out] at h2 h3 h4
        rw [← HX2.out, ← HY2.out] at h3 h4
        have hE : encB (k : Int) x2 y2 = true := by
          unfold encB
          rw [goodB_eq, h3, Bool.and_true]
          unfold inB
          simp
          omega
        refine hall ⟨?_, ?_, ?_, ?_⟩
        · rcases HF1.out with h | h
          · exact h.2
          · exact absurd h1 h.1
        · rcases HF2.out with h | h
          · exact h.2
          · exact absurd h2 h.1
        · rw [← HB2.out, hE]
        · rw [str_eq, ← HS2.out, encS_yes hE, bs_of]
          simp
          exact h4
      have cE0 := BE.cell 0
      have cE1 := BE.cell 1
      simp at cE0 cE1
      rcases f1 with _ | _
      all_goals
        rcases f2 with _ | _
        all_goals
          rcases B2 with _ | _
          all_goals
            rcases hq : (S2.toList == line.toList) with _ | _
            all_goals first
              | (exfalso; exact hall ⟨rfl, rfl, rfl, hq⟩)
              | skip
      all_goals
        clear hall
        have BN := BX
        have cN0 := BN.cell 0
        have cN1 := BN.cell 1
        have fN0 := BN.frozen 0
        have fN1 := BN.frozen 1
        simp at cN0 cN1
        go_wp2_with fail
        (try simp only [Exit.inBlock, Exit.then])
        refine bodyPost_ret (v := .tuple #[.agg #[.string ⟨#[]⟩, .string ⟨#[]⟩], .bool false]) (res_row_tmp rfl _ _ w.heap.size 131 #[.string ⟨#[]⟩, .string ⟨#[]⟩] (0, 0) _ _ (by simp) ((BN.set_ 0 _).set_ 1 _) Tryz.underlying131 rfl (by kernel_rfl) (by simp)) rfl ?_
        exact ⟨_, _, false, rfl, HNO.out, ((hT5).setCell (Nat.le_refl _) _).setCell (Nat.le_refl _) _⟩
end Go.Proofs.YtbonebpheimbaaaGreatDoor.Lg
namespace Go.Proofs.YtbonebpheimbaaaGreatDoor.Lg
open Go.RowKit

/-- The first piece of a text, as the walk reads it. -/
theorem split_zero {w : World} {A : Option Addr} {b : UInt8} {l : Bs} (h : RdL RSb w A (splitL b l).length (splitL b l)) : ∃ g o, A = some ⟨g, o, none⟩ ∧ w.cell? ⟨g, o, none⟩ = some (.string (mk (cutAt b l).1)) := by
  obtain ⟨g, o, v, x, e, hc, hv, -, hx⟩ := h.at (k := 0) (split_pos b l)
  rw [split_first] at hx
  injection hx with hx
  subst hx
  rw [hv] at hc
  exact ⟨g, o, e, by simpa using hc⟩
theorem split_bound (b : UInt8) (l : Bs) : (1 : Int) ≤ ((splitL b l).length : Int) := by have := split_pos b l; omega

set_option linter.unusedSimpArgs false in
set_option maxRecDepth 20000 in
set_option maxHeartbeats 4000000 in
theorem l33Read_any (k : Nat) (s : ByteArray) (w : World) (hk : k < 60) (hs : s.size ≤ 1048576) :
    Calls Tryz.prog 88 #[.string s, .int .i64 k] w (DecE w k (bs s ++ [10])) := by
  have hb := below_box w (.cells #[.string ⟨#[]⟩, .string ⟨#[]⟩] 131)
  have BX := Blk.new w 131 #[.string ⟨#[]⟩, .string ⟨#[]⟩]
  obtain ⟨D, HD⟩ : ∃ D, Hid (mk (Lib.decDigits k) = D) := ⟨_, rfl⟩
  have hds : D.size ≤ 2 := by rw [← HD.out, size_mk]; exact dec_len2 (by omega)
  have HDB : Hid (bs D = Lib.decDigits k) := by show _ = _; rw [← HD.out]; rfl
  have k1 := cat D ⟨#[32]⟩ (by show _ + 1 ≤ _; omega)
  have HAH : Hid (bs (D ++ ⟨#[32]⟩) = Lib.decDigits k ++ [32]) := by show _ = _; rw [bs_app, HDB.out]; rfl
  have HAL : Hid ((Lib.decDigits k ++ [32]).length = D.size + 1) := by show _ = _; rw [← HDB.out]; simp [size_bs]
  go_enter Tryz.func88, Tryz.ntmps88
  go_wp2_with fail
  refine (l1Num_any k (by omega) _).mono ?_
  rintro e w1 ⟨rfl, z, rfl⟩
  rw [HD.out]
  go_wp2_with fail
  refine (l1Split_any s 35 35 rfl _ (by omega)).mono ?_
  rintro e w2 ⟨A, c, rfl, hr, hb2⟩
  obtain ⟨g, o, rfl, hc⟩ := split_zero hr
  have hT2 : Below w.heap.size w w2 := below_next (below_drewN hb _) hb2 rfl
  replace BX : Blk w2 w.heap.size 131 #[.string ⟨#[]⟩, .string ⟨#[]⟩] := (BX.drewN z).next hb2
  have hsp := split_bound 35 (bs s)
  obtain ⟨n1, HN1⟩ : ∃ n, Hid ((splitL 35 (bs s)).length = n) := ⟨_, rfl⟩
  obtain ⟨T, HTT⟩ : ∃ T, Hid (mk (cutAt 35 (bs s)).1 = T) := ⟨_, rfl⟩
  rw [HN1.out] at hsp ⊢
  rw [HTT.out] at hc
  have HTB : Hid (bs T = (cutAt 35 (bs s)).1) := by show _ = _; rw [← HTT.out]; rfl
  have hts : T.size ≤ 1048576 := by
    have h1 := (cutAt_len 35 (bs s)).1
    have h2 := congrArg List.length HTB.out
    have h3 : (bs T).length = T.size := rfl
    have h4 : (bs s).length = s.size := rfl
    omega
  clear hr hb hb2
  by_cases hA : T.size < D.size + 1
  · have BN := BX
    have cN0 := BN.cell 0
    have cN1 := BN.cell 1
    have fN0 := BN.frozen 0
    have fN1 := BN.frozen 1
    simp at cN0 cN1
    go_wp2_with fail
    (try simp only [Exit.inBlock, Exit.then])
    refine bodyPost_ret (v := .tuple #[.agg #[.string ⟨#[]⟩, .string ⟨#[]⟩], .bool false]) (res_row_tmp rfl _ _ w.heap.size 131 #[.string ⟨#[]⟩, .string ⟨#[]⟩] (0, 0) _ _ (by simp) ((BN.set_ 0 _).set_ 1 _) Tryz.underlying131 rfl (by kernel_rfl) (by simp)) rfl ?_
    exact ⟨_, _, false, rfl, read_no1 (by rw [HAL.out, ← HTB.out]; intro h; have h3 : (bs T).length = T.size := rfl; omega), ((hT2).setCell (Nat.le_refl _) _).setCell (Nat.le_refl _) _⟩
  · have c0 : (0 : Int) ≤ (D.size : Int) + 1 := by omega
    have c1 : (D.size : Int) + 1 ≤ (T.size : Int) := by omega
    have c2 : ¬ ((T.size : Int) < (D.size : Int) + 1) := by omega
    rcases hq : ((T.extract 0 (D.size + 1)).toList == (D ++ ⟨#[32]⟩).toList) with _ | _
    · have HQ : Hid ((bs T).take (D.size + 1) ≠ Lib.decDigits k ++ [32]) := by
        show ¬ _
        rw [str_eq, bs_ext, HAH.out] at hq
        simpa using hq
      have BN := BX
      have cN0 := BN.cell 0
      have cN1 := BN.cell 1
      have fN0 := BN.frozen 0
      have fN1 := BN.frozen 1
      simp at cN0 cN1
      go_wp2_with fail
      (try simp only [Exit.inBlock, Exit.then])
      refine bodyPost_ret (v := .tuple #[.agg #[.string ⟨#[]⟩, .string ⟨#[]⟩], .bool false]) (res_row_tmp rfl _ _ w.heap.size 131 #[.string ⟨#[]⟩, .string ⟨#[]⟩] (0, 0) _ _ (by simp) ((BN.set_ 0 _).set_ 1 _) Tryz.underlying131 rfl (by kernel_rfl) (by simp)) rfl ?_
      exact ⟨_, _, false, rfl, read_no1 (by rw [HAL.out, ← HTB.out]; exact fun h => HQ.out h.2), ((hT2).setCell (Nat.le_refl _) _).setCell (Nat.le_refl _) _⟩
    · have HQ : Hid ((bs T).take (D.size + 1) = Lib.decDigits k ++ [32]) := by
        show _ = _
        rw [str_eq, bs_ext, HAH.out] at hq
        simpa using hq
      obtain ⟨R, HR⟩ : ∃ R, Hid (T.extract (D.size + 1) T.size = R) := ⟨_, rfl⟩
      have HRB : Hid (bs R = (bs T).drop (D.size + 1)) := by
        show _ = _
        rw [← HR.out, bs_ext, List.take_of_length_le (by rw [List.length_drop]; exact Nat.le_refl _)]
      have hrs : R.size ≤ 1048576 := by
        have h2 := congrArg List.length HRB.out
        have h3 : (bs T).length = T.size := rfl
        have h4 : (bs R).length = R.size := rfl
        rw [List.length_drop] at h2
        omega
      have HREST : Hid ((cutAt 35 (bs s)).1.drop (Lib.decDigits k ++ [32]).length = bs R) := by
        show _ = _
        rw [HAL.out, ← HTB.out, HRB.out]
      go_wp2_with fail
      rw [HR.out]
      refine (l1Split_any R 64 64 rfl _ (by omega)).mono ?_
      rintro e w3 ⟨A, c3, rfl, hr3, hb3⟩
      obtain ⟨g3, o3, rfl, hc3⟩ := split_zero hr3
      have hT3 := below_next hT2 hb3 rfl
      replace BX := BX.next hb3
      have hsp3 := split_bound 64 (bs R)
      obtain ⟨n3, HN3⟩ : ∃ n, Hid ((splitL 64 (bs R)).length = n) := ⟨_, rfl⟩
      obtain ⟨Q, HQQ⟩ : ∃ T, Hid (mk (cutAt 64 (bs R)).1 = T) := ⟨_, rfl⟩
      rw [HN3.out] at hsp3 ⊢
      rw [HQQ.out] at hc3
      have HQB : Hid ((cutAt 64 (bs R)).1 = bs Q) := by show _ = _; rw [← HQQ.out]; rfl
      have hqs : Q.size ≤ R.size := by
        have h1 := (cutAt_len 64 (bs R)).1
        have h2 := congrArg List.length HQB.out
        have h3 : (bs Q).length = Q.size := rfl
        have h4 : (bs R).length = R.size := rfl
        omega
      clear hr3 hb3 hc hsp c0 c1 c2 hA
      rcases hqr : ((Q.size : Int) == (R.size : Int)) with _ | _
      rotate_left
      · have HQR : Hid ((cutAt 64 (bs R)).1.length = (bs R).length) := by
          show _ = _
          rw [HQB.out]
          have := beq_iff_eq.1 hqr
          have h3 : (bs Q).length = Q.size := rfl
          have h4 : (bs R).length = R.size := rfl
          omega
        have BN := BX
        have cN0 := BN.cell 0
        have cN1 := BN.cell 1
        have fN0 := BN.frozen 0
        have fN1 := BN.frozen 1
        simp at cN0 cN1
        go_wp2_with fail
        (try simp only [Exit.inBlock, Exit.then])
        refine bodyPost_ret (v := .tuple #[.agg #[.string ⟨#[]⟩, .string ⟨#[]⟩], .bool false]) (res_row_tmp rfl _ _ w.heap.size 131 #[.string ⟨#[]⟩, .string ⟨#[]⟩] (0, 0) _ _ (by simp) ((BN.set_ 0 _).set_ 1 _) Tryz.underlying131 rfl (by kernel_rfl) (by simp)) rfl ?_
        exact ⟨_, _, false, rfl, read_no2 HREST.out HQR.out, ((hT3).setCell (Nat.le_refl _) _).setCell (Nat.le_refl _) _⟩
      · have hlt : Q.size + 1 ≤ R.size := by
          have := beq_eq_false_iff_ne.1 hqr
          omega
        have c0 : (0 : Int) ≤ (Q.size : Int) + 1 := by omega
        have c1 : (Q.size : Int) + 1 ≤ (R.size : Int) := by omega
        obtain ⟨X, HX⟩ : ∃ X, Hid (R.extract (Q.size + 1) R.size = X) := ⟨_, rfl⟩
        have HXB : Hid (bs X = (bs R).drop (Q.size + 1)) := by
          show _ = _
          rw [← HX.out, bs_ext, List.take_of_length_le (by rw [List.length_drop]; exact Nat.le_refl _)]
        have hxs : X.size ≤ 1048576 := by
          have h2 := congrArg List.length HXB.out
          have h3 : (bs X).length = X.size := rfl
          have h4 : (bs R).length = R.size := rfl
          rw [List.length_drop] at h2
          omega
        have hlt3 := BX.lt
        obtain ⟨w4, hw4⟩ : ∃ w4, Hid (w4 = w3.alloc (.cells #[.string Q, .string X] 131)) := ⟨_, rfl⟩
        have hbe : Below w3.heap.size w3 w4 := by rw [hw4.out]; exact below_box _ _
        have BE : Blk w4 w3.heap.size 131 #[.string Q, .string X] := by rw [hw4.out]; exact Blk.new _ _ _
        have hT4 := below_next hT3 hbe rfl
        replace BX := BX.next hbe
        have cE0 := BE.cell 0
        have cE1 := BE.cell 1
        simp at cE0 cE1
        have k5 := cat s ⟨#[10]⟩ (by show _ + 1 ≤ _; omega)
        have hq1 : Q.size ≤ maxLen := by unfold maxLen; omega
        have hx1 : X.size ≤ maxLen := by unfold maxLen; omega
        have HXR : Hid ((bs R).drop ((bs Q).length + 1) = bs X) := HXB.out.symm
        have HNO : Hid (¬ (goodL (bs Q) (bs X) = true ∧ k < 60 ∧ lineL k (bs Q) (bs X) = bs s ++ [10]) → DecR k (bs s ++ [10]) (bs Q) (bs X) false) := fun h => read_no3 HREST.out HQB.out HXR.out h
        clear hbe
        go_wp2_with fail
        rw [HX.out, ← hw4.out]
        clear hw4
        have hne : w.heap.size ≠ w3.heap.size := by omega
        have Tk : Below w4.heap.size w4 w4 := Below.refl _ _
        rcases hg : goodB Q X with _ | _
        · have HG := Lib.hid hg
          clear hg
          refine wp_region_held_drew (S := fun w' => w'.cell? ⟨w3.heap.size, 0, none⟩ = some (.string Q) ∧ w'.cell? ⟨w3.heap.size, 1, none⟩ = some (.string X)) (by kernel_rfl) ⟨cE0, cE1⟩ (fun hHeld => ?_)
          refine wpAnyH_take (i := 0) (v := .agg #[.string Q, .string X]) rfl (by kernel_rfl) (by kernel_rfl) (by kernel_rfl) (fun _ _ _ h => h) (Or.inl ⟨by rfl, fun wv hSw => by (obtain ⟨hS0, hS1⟩ := hSw); go_simp⟩) (by assumption) ?_
          (try simp only [Act.put, List.setIfInBounds_toArray, List.set_cons_zero, List.set_cons_succ])
          refine wpAnyH_take (i := 1) (v := .agg #[.string Q, .string X]) rfl (by kernel_rfl) (by kernel_rfl) (by kernel_rfl) (fun _ _ _ h => h) (Or.inl ⟨by rfl, fun wv hSw => by (obtain ⟨hS0, hS1⟩ := hSw); go_simp⟩) (by assumption) ?_
          (try simp only [Act.put, List.setIfInBounds_toArray, List.set_cons_zero, List.set_cons_succ])
          refine wpAnyH_ready (rs := [2]) (by kernel_rfl) (by simp) ?_
          refine AllReadyH.cons rfl (fun K hK => ?_) AllReadyH.nil
          go_simp
          refine (l33Good_any Q X _ hq1 hx1).mono ?_
          rintro e wn ⟨rfl, hbn⟩
          rw [HG.out]
          replace Tk := below_next (by first | exact Tk | exact Below.drew Tk) hbn rfl
          go_wp2_with fail
          refine hK.out _ _ ⟨keepc Tk cE0, keepc Tk cE1⟩ (fun hHeld2 => ?_)
          clear hK K hHeld
          (try simp only [Act.put, List.setIfInBounds_toArray, List.set_cons_zero, List.set_cons_succ])
          have cX0 : wn.cell? ⟨w.heap.size, 0, none⟩ = some (.string ⟨#[]⟩) := (BX.next Tk).cell 0
          have cX1 : wn.cell? ⟨w.heap.size, 1, none⟩ = some (.string ⟨#[]⟩) := (BX.next Tk).cell 1
          have fX0 := (BX.next Tk).frozen 0
          have fX1 := (BX.next Tk).frozen 1
          refine wpAnyH_take (i := 3) (v := .bool false) rfl (by kernel_rfl) (by kernel_rfl) (by kernel_rfl) (fun _ _ _ h => h) (Or.inl ⟨by rfl, fun _ _ => by go_simp⟩) (by assumption) ?_
          (try simp only [Act.put, List.setIfInBounds_toArray, List.set_cons_zero, List.set_cons_succ])
          refine wpAnyH_take (i := 4) (v := undef) rfl (by kernel_rfl) (by kernel_rfl) (by kernel_rfl) (fun _ _ _ h => h) (Or.inr ⟨by rfl, rfl⟩) (by assumption) ?_
          (try simp only [Act.put, List.setIfInBounds_toArray, List.set_cons_zero, List.set_cons_succ])
          refine wpAnyH_take (i := 5) (v := undef) rfl (by kernel_rfl) (by kernel_rfl) (by kernel_rfl) (fun _ _ _ h => h) (Or.inr ⟨by rfl, rfl⟩) (by assumption) ?_
          (try simp only [Act.put, List.setIfInBounds_toArray, List.set_cons_zero, List.set_cons_succ])
          refine wpAnyH_take (i := 6) (v := undef) rfl (by kernel_rfl) (by kernel_rfl) (by kernel_rfl) (fun _ _ _ h => h) (Or.inr ⟨by rfl, rfl⟩) (by assumption) ?_
          (try simp only [Act.put, List.setIfInBounds_toArray, List.set_cons_zero, List.set_cons_succ])
          refine wpAnyH_take (i := 7) (v := undef) rfl (by kernel_rfl) (by kernel_rfl) (by kernel_rfl) (fun _ _ _ h => h) (Or.inr ⟨by rfl, rfl⟩) (by assumption) ?_
          (try simp only [Act.put, List.setIfInBounds_toArray, List.set_cons_zero, List.set_cons_succ])
          refine wpAnyH_take (i := 8) (v := undef) rfl (by kernel_rfl) (by kernel_rfl) (by kernel_rfl) (fun _ _ _ h => h) (Or.inr ⟨by rfl, rfl⟩) (by assumption) ?_
          (try simp only [Act.put, List.setIfInBounds_toArray, List.set_cons_zero, List.set_cons_succ])
          refine wpAnyH_take (i := 9) (v := undef) rfl (by kernel_rfl) (by kernel_rfl) (by kernel_rfl) (fun _ _ _ h => h) (Or.inr ⟨by rfl, rfl⟩) (by assumption) ?_
          (try simp only [Act.put, List.setIfInBounds_toArray, List.set_cons_zero, List.set_cons_succ])
          refine wpAnyH_take (i := 10) (v := .bool false) rfl (by kernel_rfl) (by kernel_rfl) (by kernel_rfl) (fun _ _ _ h => h) (Or.inl ⟨by rfl, fun _ _ => by go_simp⟩) (by assumption) ?_
          (try simp only [Act.put, List.setIfInBounds_toArray, List.set_cons_zero, List.set_cons_succ])
          refine wpAnyH_ready (rs := [11]) (by kernel_rfl) (by simp) ?_
          refine AllReadyH.cons rfl (fun K hK => ?_) AllReadyH.nil
          go_simp
          refine hK.out _ _ ⟨by rw [World.cell?_setCell_far _ _ _ _ (by show _ ≠ _; omega), World.cell?_setCell_far _ _ _ _ (by show _ ≠ _; omega)]; exact keepc Tk cE0, by rw [World.cell?_setCell_far _ _ _ _ (by show _ ≠ _; omega), World.cell?_setCell_far _ _ _ _ (by show _ ≠ _; omega)]; exact keepc Tk cE1⟩ (fun hHeld3 => ?_)
          clear hK K hHeld2
          (try simp only [Act.put, List.setIfInBounds_toArray, List.set_cons_zero, List.set_cons_succ])
          refine wpAnyH_ready (rs := [12]) (by kernel_rfl) (by simp) ?_
          refine AllReadyH.cons rfl (fun K hK => ?_) AllReadyH.nil
          go_simp
          refine hK.out _ _ hHeld3 (fun hHeld4 => ?_)
          clear hK K hHeld3
          (try simp only [Act.put, List.setIfInBounds_toArray, List.set_cons_zero, List.set_cons_succ])
          refine wpAnyH_done (by kernel_rfl) ?_ _
          go_wp2
          (try simp only [Exit.inBlock, Exit.then])
          refine bodyPost_ret (v := .tuple #[.agg #[.string Q, .string X], .bool false]) (res_row_tmp rfl _ _ w.heap.size 131 #[.string Q, .string X] (0, 0) _ _ (by simp) (((BX.next Tk).set_ 0 _).set_ 1 _) Tryz.underlying131 rfl (by kernel_rfl) (by simp)) rfl ?_
          exact ⟨_, _, false, rfl, HNO.out (by rw [← goodB_eq, HG.out]; simp), ((below_next hT4 Tk rfl).setCell (Nat.le_refl _) _).setCell (Nat.le_refl _) _⟩
        · have HG := Lib.hid hg
          obtain ⟨hq2, hx2⟩ := good_sz hg
          obtain ⟨bl, hl⟩ : ∃ b, ((mk (lineL k (bs Q) (bs X))).toList == (s ++ ⟨#[10]⟩).toList) = b := ⟨_, rfl⟩
          have HL : Hid (decide (lineL k (bs Q) (bs X) = bs s ++ [10]) = bl) := by
            show _ = _
            rw [← hl, str_eq, bs_app]
            rfl
          clear hg
          first
            | go_region_held3 (fun w' => w'.cell? ⟨w3.heap.size, 0, none⟩ = some (.string Q) ∧ w'.cell? ⟨w3.heap.size, 1, none⟩ = some (.string X)) (first | go_keep | exact ⟨keepc Tk cE0, keepc Tk cE1⟩) (first | (go_at_call 133; refine (l33Good_any Q X _ hq1 hx1).mono ?_; rintro e wn ⟨rfl, hbn⟩; rw [HG.out]; replace Tk := below_next (by first | exact Tk | exact Below.drew Tk) hbn rfl) | (go_at_call 134; refine (l33Line_any k Q X _ (by omega) (by omega) (by omega)).mono ?_; rintro e wn ⟨rfl, hbn⟩; replace Tk := below_next (by first | exact Tk | exact Below.drew Tk) hbn rfl; have cX0 : wn.cell? ⟨w.heap.size, 0, none⟩ = some (.string ⟨#[]⟩) := (BX.next Tk).cell 0; have cX1 : wn.cell? ⟨w.heap.size, 1, none⟩ = some (.string ⟨#[]⟩) := (BX.next Tk).cell 1; have fX0 := (BX.next Tk).frozen 0; have fX1 := (BX.next Tk).frozen 1))
            | fail
          go_wp2
          (try simp only [Exit.inBlock, Exit.then])
          refine bodyPost_ret (v := .tuple #[.agg #[.string Q, .string X], .bool bl]) (res_row_tmp rfl _ _ w.heap.size 131 #[.string Q, .string X] (0, 0) _ _ (by simp) (((BX.next Tk).set_ 0 _).set_ 1 _) Tryz.underlying131 rfl (by kernel_rfl) (by simp)) rfl ?_
          refine ⟨_, _, bl, rfl, ?_, ((below_next hT4 Tk rfl).setCell (Nat.le_refl _) _).setCell (Nat.le_refl _) _⟩
          clear hl
          have hL := HL.out
          rcases bl with _ | _
          · exact HNO.out (fun h => by rw [h.2.2] at hL; simp at hL)
          · exact DecR.yes (by rw [← goodB_eq]; exact HG.out) hk (by simpa using hL)
end Go.Proofs.YtbonebpheimbaaaGreatDoor.Lg
