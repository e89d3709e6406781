
/- Walks: recovering a log, in the program and in the reference; the law. -/
import Derived.Test.YteogfjddkaodkaaDoorReadP
namespace Go.Proofs.YteogfjddkaodkaaDoor
open Go.RowKit

@[reducible] def logV (d p : ByteArray) (n : Int) : Value := .agg #[.string d, .string p, .int .i64 n]
theorem res_row_tmp2 {P : Program} {fn : Func} {p u u2 : Tmp} {ty : TypeId} (h : fn.results = #[.cell p ty, .tmp u, .tmp u2]) (tmps : Array Value) (w : World) (g : Nat) (t : TypeId) (cs : Array Value) (fr : Nat × Nat) (d : TypeDesc) (b b2 : Value)
    (hp : tmps.getD p undef = .pointer (some ⟨g, 0, none⟩)) (hg : w.heap[g]? = some (.cells cs t fr))
    (hu : P.underlying ty = some d) (hd : (match d with | .struct _ | .array _ _ => true | _ => false) = true) (hi : (P.info? ty).map (·.size) = some cs.size) (hb : tmps.getD u undef = b) (hb2 : tmps.getD u2 undef = b2) :
    (results fn tmps).run P w = .ok (.tuple #[.agg cs, b, b2]) w := by
  have : (results fn tmps).run P w = ((asAddr (tmps.getD p undef)).run P w).andThen fun a w₁ => ((loadVar ty a).run P w₁).andThen fun v w₂ => .ok (.tuple #[v, tmps.getD u undef, tmps.getD u2 undef]) w₂ := by
    simp only [results, h]
    simp [Sem.run_bind, Result.andThen]
  rw [this, hp, hb, hb2]
  simp [asAddr, Result.andThen, run_loadVar_row w g t ty cs fr d hg hu hd hi]

set_option maxHeartbeats 1000000 in
theorem eqLog_self (d p : ByteArray) (n : Int) (w : World) :
    Calls Tryd.prog 19 #[logV d p n, logV d p n] w (Bl w (.bool true)) := by
  have hb := below_box2 w (.cells #[.string d, .string p, .int .i64 n] 31) (.cells #[.string d, .string p, .int .i64 n] 31)
  go_enter Tryd.func19, Tryd.ntmps19
  go_wp2
  go_ret
  exact ⟨rfl, hb⟩

def endA (s : ByteArray) : Nat := endOf (readAll (bs s))
def cntA (s : ByteArray) : Nat := (readAll (bs s)).length
theorem endA_le (s : ByteArray) : endA s ≤ s.size := by
  obtain ⟨-, -, h3, t, h4⟩ := readAll_split (bs s)
  have h5 := congrArg List.length h4
  rw [List.length_append, ← h3] at h5
  have : (bs s).length = s.size := rfl
  unfold endA
  omega
def recD (s : ByteArray) : ByteArray := if 30000 < s.size then ⟨#[]⟩ else s.extract 0 (endA s)
def recN (s : ByteArray) : Nat := if 30000 < s.size then 0 else cntA s
def recE (s : ByteArray) : Nat := if 30000 < s.size then 0 else endA s
def recB (s : ByteArray) : Bool := decide (¬ 30000 < s.size)
def RecE (w : World) (s : ByteArray) (e : Ending) (w' : World) : Prop := e = .returned (.tuple #[logV (recD s) ⟨#[]⟩ (recN s), .int .i64 (recE s), .bool (recB s)]) ∧ Below w.heap.size w w'

theorem ret_rec {d d' p : ByteArray} {n n' e e' : Int} {b b' : Bool} (h : d = d') (h2 : n = n') (h3 : e = e') (h4 : b = b') : Ending.returned (.tuple #[logV d p n, .int .i64 e, .bool b]) = .returned (.tuple #[logV d' p n', .int .i64 e', .bool b']) := by rw [h, h2, h3, h4]
theorem Blk.set3 {w : World} {g : Nat} {t : TypeId} {d p : ByteArray} {n : Int} (h : Blk w g t #[.string ⟨#[]⟩, .string ⟨#[]⟩, .int .i64 0]) : Blk (((w.setCell ⟨g, 0, none⟩ (.string d)).setCell ⟨g, 1, none⟩ (.string p)).setCell ⟨g, 2, none⟩ (.int .i64 n)) g t #[.string d, .string p, .int .i64 n] := by
  have h2 := ((h.set_ 0 (.string d)).set_ 1 (.string p)).set_ 2 (.int .i64 n)
  simpa using h2

set_option maxHeartbeats 1000000 in
theorem specRecov_any (s : ByteArray) (w : World) (hs : s.size ≤ 1048576) :
    Calls Tryd.prog 17 #[.string s] w (RecE w s) := by
  have hT := below_box w (.cells #[.string ⟨#[]⟩, .string ⟨#[]⟩, .int .i64 0] 31)
  have BX := Blk.new w 31 #[.string ⟨#[]⟩, .string ⟨#[]⟩, .int .i64 0]
  by_cases hbig : 30000 < s.size
  · have h1 : Hid (⟨#[]⟩ = recD s) := (if_pos hbig).symm
    have h2 : Hid (0 = recN s) := (if_pos hbig).symm
    have h3 : Hid (0 = recE s) := (if_pos hbig).symm
    have h4 : Hid (false = recB s) := by show _ = _; unfold recB; simpa using hbig
    go_enter Tryd.func17, Tryd.ntmps17
    go_wp2_with fail
    (try simp only [Exit.inBlock, Exit.then])
    refine bodyPost_ret (v := .tuple #[logV ⟨#[]⟩ ⟨#[]⟩ 0, .int .i64 0, .bool false]) (res_row_tmp2 rfl _ _ w.heap.size 31 #[.string ⟨#[]⟩, .string ⟨#[]⟩, .int .i64 0] (0, 0) _ _ _ (by simp) BX Tryd.underlying31 rfl (by kernel_rfl) (by simp) (by simp)) rfl ?_
    exact ⟨ret_rec h1.out (congrArg Int.ofNat h2.out) (congrArg Int.ofNat h3.out) h4.out, hT⟩
  · have h1 : Hid (s.extract 0 (endA s) = recD s) := (if_neg hbig).symm
    have h2 : Hid (cntA s = recN s) := (if_neg hbig).symm
    have h3 : Hid (endA s = recE s) := (if_neg hbig).symm
    have h4 : Hid (true = recB s) := by show _ = _; unfold recB; simpa using hbig
    have hle := endA_le s
    obtain ⟨m, HM⟩ : ∃ m, Hid (endA s = m) := ⟨_, rfl⟩
    obtain ⟨k, HK⟩ : ∃ m, Hid (cntA s = m) := ⟨_, rfl⟩
    have HM' : Hid (endOf (readAll (bs s)) = m) := HM
    have HK' : Hid ((readAll (bs s)).length = k) := HK
    rw [HM.out] at h1 h3 hle
    rw [HK.out] at h2
    have c1 : (0 : Int) ≤ m := by omega
    have c2 : (m : Int) ≤ s.size := by omega
    go_enter Tryd.func17, Tryd.ntmps17
    go_wp2_with fail
    refine (l33Open_any s _ hs).mono ?_
    rintro e w3 ⟨A, c, rfl, -, hb3⟩
    rw [HM'.out, HK'.out]
    have hT3 := below_next hT hb3 rfl
    replace BX := BX.next hb3
    have cN0 := BX.cell 0
    have cN1 := BX.cell 1
    have cN2 := BX.cell 2
    have fN0 := BX.frozen 0
    have fN1 := BX.frozen 1
    have fN2 := BX.frozen 2
    simp at cN0 cN1 cN2
    go_wp2_with fail
    (try simp only [Exit.inBlock, Exit.then])
    refine bodyPost_ret (v := .tuple #[logV (s.extract 0 m) ⟨#[]⟩ k, .int .i64 m, .bool true]) (res_row_tmp2 rfl _ _ w.heap.size 31 #[.string (s.extract 0 m), .string ⟨#[]⟩, .int .i64 k] (0, 0) _ _ _ (by simp) BX.set3 Tryd.underlying31 rfl (by kernel_rfl) (by simp) (by simp)) rfl ?_
    exact ⟨ret_rec h1.out (congrArg Int.ofNat h2.out) (congrArg Int.ofNat h3.out) h4.out, ((hT3.setCell (Nat.le_refl _) _).setCell (Nat.le_refl _) _).setCell (Nat.le_refl _) _⟩

theorem own_at {w : World} {base e n d k : Nat} {B : Option Addr} {xs : List Value} {v : Value} (h : w.ownsRow base e 1 (.slice B n d) n xs) (hk : k < n) (hx : xs[k]? = some v) : ∃ g, B = some ⟨g, 0, none⟩ ∧ w.cell? ⟨g, k, none⟩ = some v := by
  obtain ⟨g, cap, cur, hv, -⟩ := h.2.resolve_left (by rintro ⟨-, h0⟩; omega)
  injection hv with hv hn hc
  subst hv hc
  exact ⟨g, rfl, by rw [h.cellAt k (by omega)]; exact hx⟩

set_option maxHeartbeats 1000000 in
theorem implRecov_any (s : ByteArray) (w : World) (hs : s.size ≤ 1048576) (ht : Tab w) :
    Calls Tryd.prog 18 #[.string s] w (RecE w s) := by
  have hT := below_box w (.cells #[.string ⟨#[]⟩, .string ⟨#[]⟩, .int .i64 0] 31)
  have BX := Blk.new w 31 #[.string ⟨#[]⟩, .string ⟨#[]⟩, .int .i64 0]
  by_cases hbig : 30000 < s.size
  · have h1 : Hid (⟨#[]⟩ = recD s) := (if_pos hbig).symm
    have h2 : Hid (0 = recN s) := (if_pos hbig).symm
    have h3 : Hid (0 = recE s) := (if_pos hbig).symm
    have h4 : Hid (false = recB s) := by show _ = _; unfold recB; simpa using hbig
    go_enter Tryd.func18, Tryd.ntmps18
    go_wp2_with fail
    (try simp only [Exit.inBlock, Exit.then])
    refine bodyPost_ret (v := .tuple #[logV ⟨#[]⟩ ⟨#[]⟩ 0, .int .i64 0, .bool false]) (res_row_tmp2 rfl _ _ w.heap.size 31 #[.string ⟨#[]⟩, .string ⟨#[]⟩, .int .i64 0] (0, 0) _ _ _ (by simp) BX Tryd.underlying31 rfl (by kernel_rfl) (by simp) (by simp)) rfl ?_
    exact ⟨ret_rec h1.out (congrArg Int.ofNat h2.out) (congrArg Int.ofNat h3.out) h4.out, hT⟩
  · have h1 : Hid (s.extract 0 (endA s) = recD s) := (if_neg hbig).symm
    have h2 : Hid (cntA s = recN s) := (if_neg hbig).symm
    have h3 : Hid (endA s = recE s) := (if_neg hbig).symm
    have h4 : Hid (true = recB s) := by show _ = _; unfold recB; simpa using hbig
    have hle := endA_le s
    have hlast := endsFrom_last (readAll (bs s)) 0
    have h60 := (readAll_split (bs s)).2.1
    obtain ⟨m, HM⟩ : ∃ m, Hid (endA s = m) := ⟨_, rfl⟩
    obtain ⟨k, HK⟩ : ∃ m, Hid (cntA s = m) := ⟨_, rfl⟩
    have HM' : Hid (endOf (readAll (bs s)) = m) := HM
    have HK' : Hid ((readAll (bs s)).length = k) := HK
    rw [HM.out] at h1 h3 hle
    rw [HK.out] at h2
    rw [HM'.out, HK'.out, Nat.zero_add] at hlast
    rw [HK'.out] at h60
    have HL : Hid ((natCells (endsFrom 0 (readAll (bs s))))[k]? = some (.int .i64 m)) := by
      show _ = _
      rw [natCells, List.getElem?_map, hlast]
      rfl
    clear hlast
    have c1 : (0 : Int) ≤ m := by omega
    have c2 : (m : Int) ≤ s.size := by omega
    go_enter Tryd.func18, Tryd.ntmps18
    go_wp2_with fail
    refine (readRecords_any s _ hs (ht.next hT)).mono ?_
    rintro e w3 ⟨A, c, B, d, rfl, -, ho3, hb3⟩
    rw [HK'.out] at ho3 ⊢
    obtain ⟨g, rfl, hcg⟩ := own_at ho3 (Nat.lt_succ_self k) HL.out
    have hT3 := below_next hT hb3 rfl
    replace BX := BX.next hb3
    have cN0 := BX.cell 0
    have cN1 := BX.cell 1
    have cN2 := BX.cell 2
    have fN0 := BX.frozen 0
    have fN1 := BX.frozen 1
    have fN2 := BX.frozen 2
    simp at cN0 cN1 cN2
    go_wp2_with fail
    (try simp only [Exit.inBlock, Exit.then])
    refine bodyPost_ret (v := .tuple #[logV (s.extract 0 m) ⟨#[]⟩ k, .int .i64 m, .bool true]) (res_row_tmp2 rfl _ _ w.heap.size 31 #[.string (s.extract 0 m), .string ⟨#[]⟩, .int .i64 k] (0, 0) _ _ _ (by simp) BX.set3 Tryd.underlying31 rfl (by kernel_rfl) (by simp) (by simp)) rfl ?_
    exact ⟨ret_rec h1.out (congrArg Int.ofNat h2.out) (congrArg Int.ofNat h3.out) h4.out, ((hT3.setCell (Nat.le_refl _) _).setCell (Nat.le_refl _) _).setCell (Nat.le_refl _) _⟩

set_option maxHeartbeats 1000000 in
theorem lawRecoverLog (s : ByteArray) (w : World) (_hs : s.size ≤ maxLen) (ht : Tab w) :
    Calls Tryd.prog 4 #[.string s] w (Bl w (.bool true)) := by
  by_cases hbig : 1048576 < s.size
  · go_enter Tryd.func4, Tryd.ntmps4
    go_wp2_with fail
    go_ret
    exact ⟨rfl, Below.refl _ _⟩
  · obtain ⟨D, HD⟩ : ∃ s', Hid (recD s = s') := ⟨_, rfl⟩
    obtain ⟨N, HN⟩ : ∃ s', Hid (recN s = s') := ⟨_, rfl⟩
    obtain ⟨E, HE⟩ : ∃ s', Hid (recE s = s') := ⟨_, rfl⟩
    obtain ⟨b, HB⟩ : ∃ s', Hid (recB s = s') := ⟨_, rfl⟩
    go_enter Tryd.func4, Tryd.ntmps4
    go_wp2_with fail
    refine (specRecov_any s _ (by omega)).mono ?_
    rintro e w1 ⟨rfl, hb1⟩
    rw [HD.out, HN.out, HE.out, HB.out]
    have hT1 := hb1
    have hbe := below_box w1 (.cells #[.string D, .string ⟨#[]⟩, .int .i64 N] 31)
    have BX := Blk.new w1 31 #[.string D, .string ⟨#[]⟩, .int .i64 N]
    have hT2 := below_next hT1 hbe rfl
    clear hb1 hbe
    go_wp2_with fail
    refine (implRecov_any s _ (by omega) (ht.next hT2)).mono ?_
    rintro e w3 ⟨rfl, hb3⟩
    rw [HD.out, HN.out, HE.out, HB.out]
    have hT3 := below_next hT2 hb3 rfl
    have hlt3 := BX.lt
    replace BX := BX.next hb3
    have hbe := below_box w3 (.cells #[.string D, .string ⟨#[]⟩, .int .i64 N] 31)
    have BY := Blk.new w3 31 #[.string D, .string ⟨#[]⟩, .int .i64 N]
    have hT4 := below_next hT3 hbe rfl
    replace BX := BX.next hbe
    clear hb3 hbe
    obtain ⟨w4, hw4⟩ : ∃ w4, Hid (w4 = w3.alloc (.cells #[.string D, .string ⟨#[]⟩, .int .i64 N] 31)) := ⟨_, rfl⟩
    rw [← hw4.out] at hT4 BX BY
    have cX0 := BX.cell 0
    have cX1 := BX.cell 1
    have cX2 := BX.cell 2
    have cY0 := BY.cell 0
    have cY1 := BY.cell 1
    have cY2 := BY.cell 2
    simp at cX0 cX1 cX2 cY0 cY1 cY2
    go_wp2_with (rw [← hw4.out]; clear hw4)
    refine (eqLog_self D ⟨#[]⟩ N _).mono ?_
    rintro e w5 ⟨rfl, hb5⟩
    have hT5 := below_next hT4 hb5 rfl
    clear hb5
    go_wp2_with fail
    go_ret
    exact ⟨rfl, hT5⟩
end Go.Proofs.YteogfjddkaodkaaDoor
