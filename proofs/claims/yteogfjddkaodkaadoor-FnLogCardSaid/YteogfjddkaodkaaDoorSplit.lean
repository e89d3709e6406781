
/- Walks: the pieces of a text between bytes (l1Split). -/
import Derived.Test.YteogfjddkaodkaaDoorEnc3
import Derived.Test.YteogfjddkaodkaaDoorLogS
import Derived.StillTailTactics
namespace Go.Proofs.YteogfjddkaodkaaDoor
open Go.RowKit

theorem info_string : (Tryd.prog.info? 9).map (fun i => (i.zero, i.size, i.bytes)) = some (some (.string ⟨#[]⟩), 1, 16) := by kernel_rfl
def strs (l : List Bs) : List Value := l.map fun s => .string (mk s)
theorem strs_snoc (l : List Bs) (s : Bs) : strs (l ++ [s]) = strs l ++ [.string (mk s)] := by simp [strs]
def RSb (_ : World) (v : Value) (x : Bs) : Prop := v = .string (mk x)
theorem stab_RSb : Stab RSb := fun _ _ _ _ _ h => h

def SplAt (b : UInt8) (l : Bs) (out : List Bs) (q i : Nat) : Prop := out ++ splitL b (l.drop q) = splitL b l ∧ ∀ j, q ≤ j → j < i → l[j]? ≠ some b
theorem SplAt.start (b : UInt8) (l : Bs) : SplAt b l [] 0 0 := ⟨by simp, fun j _ h => by omega⟩
theorem SplAt.skip {b : UInt8} {l : Bs} {out : List Bs} {q i : Nat} (h : SplAt b l out q i) (hi : l[i]? ≠ some b) : SplAt b l out q (i + 1) := by
  refine ⟨h.1, fun j h1 h2 => ?_⟩
  rcases Nat.lt_or_ge j i with h3 | h3
  · exact h.2 j h1 h3
  · have : j = i := by omega
    subst this
    exact hi
theorem not_mem_piece {b : UInt8} {l : Bs} {q i : Nat} (h : ∀ j, q ≤ j → j < i → l[j]? ≠ some b) : b ∉ (l.drop q).take (i - q) := fun hm => by
  obtain ⟨j, hj⟩ := List.getElem?_of_mem hm
  rw [List.getElem?_take] at hj
  split at hj
  · rw [List.getElem?_drop] at hj
    exact h (q + j) (by omega) (by omega) hj
  · cases hj
theorem SplAt.cut {b : UInt8} {l : Bs} {out : List Bs} {q i : Nat} (h : SplAt b l out q i) (hq : q ≤ i) (hi : l[i]? = some b) : SplAt b l (out ++ [(l.drop q).take (i - q)]) (i + 1) (i + 1) := by
  refine ⟨?_, fun j h1 h2 => by omega⟩
  have hlt := (List.getElem?_eq_some_iff.1 hi).1
  have e : l.drop q = (l.drop q).take (i - q) ++ b :: l.drop (i + 1) := by
    have h1 := List.take_append_drop (i - q) (l.drop q)
    rw [List.drop_drop, show q + (i - q) = i by omega, List.drop_eq_getElem_cons hlt] at h1
    have h2 : l[i] = b := (List.getElem?_eq_some_iff.1 hi).2
    rw [h2] at h1
    exact h1.symm
  have hn := not_mem_piece h.2
  obtain ⟨X, hX⟩ : ∃ X, X = (l.drop q).take (i - q) := ⟨_, rfl⟩
  rw [← hX] at e hn ⊢
  rw [← h.1, e, splitL_app hn]
  simp
theorem SplAt.done {b : UInt8} {l : Bs} {out : List Bs} {q i : Nat} (h : SplAt b l out q i) (hi : l.length ≤ i) : splitL b l = out ++ [l.drop q] := by
  rw [← h.1, splitL_no]
  intro hm
  obtain ⟨j, hj⟩ := List.getElem?_of_mem hm
  rw [List.getElem?_drop] at hj
  have := (List.getElem?_eq_some_iff.1 hj).1
  exact h.2 (q + j) (by omega) (by omega) hj

theorem ret_sl {A : Option Addr} {n m c : Nat} (h : n = m) : Ending.returned (.slice A n c) = .returned (.slice A m c) := by rw [h]
def SplitR (w : World) (l : List Bs) (e : Ending) (w' : World) : Prop := ∃ A c, e = .returned (.slice A l.length c) ∧ RdL RSb w' A l.length l ∧ Below w.heap.size w w'
def SplitO (w : World) (l : List Bs) (e : Ending) (w' : World) : Prop := ∃ A c, e = .returned (.slice A l.length c) ∧ w'.ownsRow w.heap.size 9 1 (.slice A l.length c) l.length (strs l) ∧ Below w.heap.size w w' ∧ l.length ≤ maxLen
/-- An own row of another element type stays when one row grows. -/
theorem own_other {w w' : World} {b1 b2 e1 e2 s1 s2 n1 n2 : Nat} {v1 v2 : Value} {x1 x2 : List Value} (h1 : w.ownsRow b1 e1 s1 v1 n1 x1) (h2 : w.ownsRow b2 e2 s2 v2 n2 x2) (he : e1 ≠ e2) (hg : w.grownBy w' v2.ownBlock) : w'.ownsRow b1 e1 s1 v1 n1 x1 := by
  refine ⟨h1.1, ?_⟩
  rcases h1.2 with h | ⟨g, cap, cur, hv, hb, hc, rest⟩
  · exact .inl h
  · refine .inr ⟨g, cap, cur, hv, hb, ?_, rest⟩
    rw [hg.block g (Array.getElem?_eq_some_iff.1 hc).1 ?_]
    · exact hc
    · intro hk
      rcases h2.2 with ⟨rfl, -⟩ | ⟨g2, cap2, cur2, rfl, -, hc2, -⟩
      · simp [Value.ownBlock] at hk
      · simp only [Value.ownBlock, Option.some.injEq] at hk
        subst hk
        rw [hc] at hc2
        injection hc2 with hc2
        injection hc2 with _ h3 _
        exact he h3
theorem rd_strs {w : World} {base n c : Nat} {A : Option Addr} {l : List Bs} (hn : n ≤ maxLen) (h : w.ownsRow base 9 1 (.slice A n c) n (strs l)) (hl : l.length = n) : RdL RSb w A n l := by
  obtain ⟨A', c', e, hr⟩ := RdL.ofOwn (R := RSb) hn h hl (fun k x hk => ⟨.string (mk x), by simp [strs, hk], rfl⟩)
  injection e with e1 e2 e3
  subst e1
  exact hr

set_option maxHeartbeats 1000000 in
theorem l1Split_own (s : ByteArray) (b : UInt8) (c : Int) (hbc : (b.toNat : Int) = c) (w : World) (hs : s.size ≤ 1073741824) :
    Calls Tryd.prog 69 #[.string s, .int .u8 c] w (SplitO w (splitL b (bs s))) := by
  subst hbc
  go_enter Tryd.func69, Tryd.ntmps69
  go_wp2
  go_loopw [5, 6, 7] (fun v f i wr => ∃ (k q m : Nat) (out : List Bs) (A : Option Addr) (c : Nat), k ≤ s.size ∧ q ≤ k ∧ m ≤ k ∧ i = .int .i64 k ∧ f = .int .i64 q ∧ v = .slice A m c ∧ out.length = m ∧ wr.ownsRow w.heap.size 9 1 (.slice A m c) m (strs out) ∧ SplAt b (bs s) out q k ∧ Below w.heap.size w wr) (fun _ _ i _ => s.size - (intOf i).toNat)
  case atStart => exact ⟨0, 0, 0, [], _, _, Nat.zero_le _, Nat.le_refl _, Nat.le_refl _, rfl, rfl, rfl, rfl, World.ownsRow_lit _ _ _ (Nat.le_refl _) (Nat.zero_le _) rfl, SplAt.start _ _, below_box _ _⟩
  case round =>
    obtain ⟨k, q, m, out, A, c, hk, hqk, hmk, rfl, rfl, rfl, hml, hown, H, hT⟩ := hrel
    have HML := Lib.hid hml
    clear hml
    have hbase := hT.size
    by_cases hlt : k < s.size
    · have HG : Hid ((bs s)[k]? = some s[k]) := by
        show (s.data.toList)[k]? = _
        rw [List.getElem?_eq_getElem (by exact hlt)]
        rfl
      rcases hb : ((s[k].toNat : Int) == (b.toNat : Int)) with _ | _
      · have HN : Hid ((bs s)[k]? ≠ some b) := by
          show ¬ _
          rw [HG.out]
          rintro h
          injection h with h
          rw [h] at hb
          simp at hb
        go_wp2
        go_roundw
        case rel => exact ⟨k + 1, q, m, out, A, c, by omega, by omega, by omega, by go_num, rfl, rfl, HML.out, hown, H.skip HN.out, hT⟩
        case measure => simp [intOf]; omega
      · have HY : Hid ((bs s)[k]? = some b) := by
          show _ = _
          rw [HG.out]
          have : s[k].toNat = b.toNat := by have := beq_iff_eq.1 hb; omega
          rw [UInt8.toNat_inj.1 this]
        have HP : Hid (s.extract q k = mk (((bs s).drop q).take (k - q))) := by
          show _ = _
          apply mk_eq
          rw [bs_ext]
        have hq0 : (0 : Int) ≤ (q : Int) := by omega
        have hqk' : (q : Int) ≤ (k : Int) := by omega
        have hk0 : (0 : Int) ≤ (k : Int) := by omega
        have hks : (k : Int) ≤ (s.size : Int) := by omega
        go_wp2_with (at_builtin; refine app1 wr rfl _ _ 88 9 rfl (.string ⟨#[]⟩) 16 Tryd.underlying88 info_string rfl (by decide) w.heap.size m c A (strs out) rfl hown (.string (s.extract q k)) rfl rfl (by omega) hbase ?_; intro A3 c3 w3 hown3 hg3 hb3)
        go_roundw
        case rel => exact ⟨k + 1, k + 1, m + 1, out ++ [((bs s).drop q).take (k - q)], A3, c3, by omega, by omega, by omega, by go_num, by go_num, rfl, by rw [List.length_append, HML.out]; rfl, by rw [strs_snoc, ← HP.out]; exact hown3, H.cut hqk HY.out, hT.trans hb3⟩
        case measure => simp [intOf]; omega
    · obtain rfl : k = s.size := by omega
      have HP : Hid (s.extract q s.size = mk ((bs s).drop q)) := by
        show _ = _
        apply mk_eq
        rw [bs_ext, List.take_of_length_le (by rw [List.length_drop, size_bs]; omega)]
      have HD := Lib.hid (H.done (Nat.le_refl _))
      have hq0 : (0 : Int) ≤ (q : Int) := by omega
      have hqk' : (q : Int) ≤ (s.size : Int) := by omega
      go_wp2_with (at_builtin; refine app1 wr rfl _ _ 88 9 rfl (.string ⟨#[]⟩) 16 Tryd.underlying88 info_string rfl (by decide) w.heap.size m c A (strs out) rfl hown (.string (s.extract q s.size)) rfl rfl (by omega) hbase ?_; intro A3 c3 w3 hown3 hg3 hb3)
      go_ret
      have hl : (splitL b (bs s)).length = m + 1 := by rw [HD.out, List.length_append, HML.out]; rfl
      refine ⟨A3, c3, ret_sl hl.symm, ?_, hT.trans hb3, by unfold maxLen; omega⟩
      rw [hl]
      rw [HD.out, strs_snoc, ← HP.out]
      exact hown3
theorem l1Split_any (s : ByteArray) (b : UInt8) (c : Int) (hbc : (b.toNat : Int) = c) (w : World) (hs : s.size ≤ 1073741824) :
    Calls Tryd.prog 69 #[.string s, .int .u8 c] w (SplitR w (splitL b (bs s))) := by
  refine (l1Split_own s b c hbc w hs).mono ?_
  rintro e w' ⟨A, c, rfl, ho, hb, hm⟩
  exact ⟨A, c, rfl, rd_strs hm ho rfl, hb⟩
end Go.Proofs.YteogfjddkaodkaaDoor
