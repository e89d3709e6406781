
/- Walks: decoding a line, in the program and in the reference. -/
import Derived.Test.YteogfjddkaodkaaDoorDec
namespace Go.Proofs.YteogfjddkaodkaaDoor
open Go.RowKit

theorem res_row_tmp {P : Program} {fn : Func} {p u : Tmp} {ty : TypeId} (h : fn.results = #[.cell p ty, .tmp u]) (tmps : Array Value) (w : World) (g : Nat) (t : TypeId) (cs : Array Value) (fr : Nat × Nat) (d : TypeDesc) (b : Value)
    (hp : tmps.getD p undef = .pointer (some ⟨g, 0, none⟩)) (hg : w.heap[g]? = some (.cells cs t fr))
    (hu : P.underlying ty = some d) (hd : (match d with | .struct _ | .array _ _ => true | _ => false) = true) (hi : (P.info? ty).map (·.size) = some cs.size) (hb : tmps.getD u undef = b) :
    (results fn tmps).run P w = .ok (.tuple #[.agg cs, b]) w := by
  rw [results_cell_tmp h, hp, hb]
  simp [asAddr, Result.andThen, run_loadVar_row w g t ty cs fr d hg hu hd hi]
/-- What decoding answers. -/
def DecE (w : World) (k : Nat) (line : Bs) (e : Ending) (w' : World) : Prop := ∃ c r ok, e = .returned (.tuple #[.agg #[.string c, .string r], .bool ok]) ∧ DecR k line (bs c) (bs r) ok ∧ Below w.heap.size w w'
theorem trim_len (l p : Bs) : (Lib.trimSuffix l p).length ≤ l.length := by
  unfold Lib.trimSuffix
  split
  · rw [List.length_take]; omega
  · exact Nat.le_refl _

theorem trim_any (line : ByteArray) (W : World) (hs : line.size ≤ 1073741824) :
    Calls Tryd.prog 81 #[.string line, .string ⟨#[10]⟩] W fun e w' => e = .returned (.string (mk (Lib.trimSuffix (bs line) [10]))) ∧ W = w' :=
  (Tryd.strings_TrimSuffix _ _ _ (by omega)).mono fun _ _ ⟨h1, h2⟩ => ⟨h1, h2.symm⟩
theorem cutAt_len (b : UInt8) : ∀ l : Bs, (cutAt b l).1.length ≤ l.length ∧ (cutAt b l).2.length ≤ l.length
  | [] => ⟨Nat.le_refl _, Nat.le_refl _⟩
  | x :: l => by
    have ih := cutAt_len b l
    rw [cutAt]
    split
    · simp
    · simp; omega
set_option maxRecDepth 20000 in
set_option maxHeartbeats 4000000 in
theorem decode_any (k : Nat) (line : ByteArray) (w : World) (hk : k < 60) (hs : line.size ≤ 1073741824) (ht : Tab w) :
    Calls Tryd.prog 72 #[.int .i64 k, .string line] w (DecE w k (bs line)) := by
  have hb := below_box w (.cells #[.string ⟨#[]⟩, .string ⟨#[]⟩] 27)
  have BX := Blk.new w 27 #[.string ⟨#[]⟩, .string ⟨#[]⟩]
  have htl : (mk (Lib.trimSuffix (bs line) [10])).size ≤ 1073741824 := by rw [size_mk]; have := trim_len (bs line) [10]; have : (bs line).length = line.size := rfl; omega
  go_enter Tryd.func72, Tryd.ntmps72
  go_wp2_with fail
  refine (trim_any _ _ hs).mono ?_
  rintro e w' ⟨rfl, rfl⟩
  go_wp2_with fail
  refine (verify_any _ _ htl (ht.next hb)).mono ?_
  rintro e w2 ⟨s', ok, rfl, hv, hb2⟩
  rw [bs_of] at hv
  have HV := Lib.hid hv
  have hT2 := below_next hb hb2 rfl
  replace BX := BX.next hb2
  clear hb hb2
  rcases ok with _ | _
  · have BN := BX
    have cN0 := BN.cell 0
    have cN1 := BN.cell 1
    have fN0 := BN.frozen 0
    have fN1 := BN.frozen 1
    simp at cN0 cN1
    go_wp2_with fail
    (try simp only [Exit.inBlock, Exit.then])
    refine bodyPost_ret (v := .tuple #[.agg #[.string ⟨#[]⟩, .string ⟨#[]⟩], .bool false]) (res_row_tmp rfl _ _ w.heap.size 27 #[.string ⟨#[]⟩, .string ⟨#[]⟩] (0, 0) _ _ (by simp) ((BN.set_ 0 _).set_ 1 _) Tryd.underlying27 rfl (by kernel_rfl) (by simp)) rfl ?_
    exact ⟨_, _, false, rfl, decode_no hk rfl HV.out (fun h => by simp at h), ((hT2).setCell (Nat.le_refl _) _).setCell (Nat.le_refl _) _⟩
  · have hsl : s'.size ≤ 1073741824 := by
      have h1 := congrArg List.length (hv.1 rfl)
      rw [size_mk] at htl
      have h2 : (bs s').length ≤ (sealL (bs s')).length := by simp [sealL]
      have : (bs s').length = s'.size := rfl
      omega
    clear hv
    go_wp2_with fail
    refine (cut_any s' 32 _ hsl).mono ?_
    rintro e w3 ⟨x1, y1, f1, rfl, hf1, -, hy1, z1, rfl⟩
    have hsl1 : y1.size ≤ 1073741824 := by
      have h1 := congrArg List.length hy1
      have h2 := (cutAt_len 32 (bs s')).2
      have h3 : (bs y1).length = y1.size := rfl
      have h4 : (bs s').length = s'.size := rfl
      omega
    have HF1 := Lib.hid hf1
    have HY1 := Lib.hid hy1
    clear hf1 hy1
    go_wp2_with fail
    refine (cut_any y1 64 _ hsl1).mono ?_
    rintro e w3 ⟨x2, y2, f2, rfl, hf2, hx2, hy2, z2, rfl⟩
    have hsx : x2.size ≤ maxLen ∧ y2.size ≤ maxLen := by
      have h1 := congrArg List.length hx2
      have h2 := congrArg List.length hy2
      have h3 := cutAt_len 64 (bs y1)
      have h4 : (bs y1).length = y1.size := rfl
      have h5 : (bs x2).length = x2.size := rfl
      have h6 : (bs y2).length = y2.size := rfl
      unfold maxLen
      omega
    have HF2 := Lib.hid hf2
    have HX2 := Lib.hid hx2
    have HY2 := Lib.hid hy2
    clear hf2 hx2 hy2
    obtain ⟨w3, hw3⟩ : ∃ w3, Hid (w3 = (w2.drewN z1).drewN z2) := ⟨_, rfl⟩
    have hT3 : Below w.heap.size w w3 := by rw [hw3.out]; exact below_drewN (below_drewN hT2 _) _
    replace BX : Blk w3 w.heap.size 27 #[.string ⟨#[]⟩, .string ⟨#[]⟩] := by rw [hw3.out]; exact (BX.drewN _).drewN _
    have hlt := BX.lt
    have ht3 := ht.next hT3
    rw [← hw3.out]
    clear hw3
    go_wp2_with fail
    have hbe := below_box w3 (.cells #[.string x2, .string y2] 27)
    have BE := Blk.new w3 27 #[.string x2, .string y2]
    have hT4 := below_next hT3 hbe rfl
    replace BX := BX.next hbe
    refine (implEnc_any (k : Int) x2 y2 _ hsx.1 hsx.2 (ht3.next hbe)).mono ?_
    rintro e w5 ⟨rfl, hb5⟩
    have hT5 := below_next hT4 hb5 rfl
    replace BX := BX.next hb5
    replace BE := BE.next hb5
    clear hbe hb5 hT4 hT3 ht3
    obtain ⟨B2, HB2⟩ : ∃ b, Hid (encB (k : Int) x2 y2 = b) := ⟨_, rfl⟩
    obtain ⟨S2, HS2⟩ : ∃ b, Hid (encS (k : Int) x2 y2 = b) := ⟨_, rfl⟩
    rw [HB2.out, HS2.out]
    by_cases hall : f1 = true ∧ f2 = true ∧ B2 = true ∧ (S2.toList == line.toList) = true
    · obtain ⟨rfl, rfl, rfl, hq⟩ := hall
      have HQ : Hid (bs S2 = bs line) := by show _ = _; rw [str_eq] at hq; simpa using hq
      have HG : Hid (goodL (bs x2) (bs y2) = true) := by
        show _ = _
        have := HB2.out
        unfold encB at this
        rw [Bool.and_eq_true] at this
        rw [← goodB_eq]
        exact this.2
      have HL : Hid (lineL k (bs x2) (bs y2) = bs line) := by
        show _ = _
        rw [← HQ.out, ← HS2.out, encS_yes HB2.out, bs_of]
        rfl
      have cE0 := BE.cell 0
      have cE1 := BE.cell 1
      have cX0 := BX.cell 0
      have cX1 := BX.cell 1
      have fX0 := BX.frozen 0
      have fX1 := BX.frozen 1
      simp at cE0 cE1 cX0 cX1
      go_wp2_with fail
      (try simp only [Exit.inBlock, Exit.then])
      refine bodyPost_ret (v := .tuple #[.agg #[.string x2, .string y2], .bool true]) (res_row_tmp rfl _ _ w.heap.size 27 #[.string x2, .string y2] (0, 0) _ _ (by simp) ((BX.set_ 0 _).set_ 1 _) Tryd.underlying27 rfl (by kernel_rfl) (by simp)) rfl ?_
      exact ⟨_, _, true, rfl, DecR.yes HG.out hk HL.out, (hT5.setCell (Nat.le_refl _) _).setCell (Nat.le_refl _) _⟩
    · have HNO : Hid (DecR k (bs line) (bs (⟨#[]⟩ : ByteArray)) (bs (⟨#[]⟩ : ByteArray)) false) := by
        refine decode_no hk rfl HV.out ?_
        rintro ⟨-, h1, h2, h3, h4⟩
        rw [← HY1.out] at h2 h3 h4
        rw [← HX2.out, ← HY2.out] at h3 h4
        have hE : encB (k : Int) x2 y2 = true := by
          unfold encB
          rw [goodB_eq, h3, Bool.and_true]
          unfold inB
          simp
          omega
        refine hall ⟨?_, ?_, ?_, ?_⟩
        · rcases HF1.out with h | h
          · exact h.2
          · exact absurd h1 h.1
        · rcases HF2.out with h | h
          · exact h.2
          · exact absurd h2 h.1
        · rw [← HB2.out, hE]
        · rw [str_eq, ← HS2.out, encS_yes hE, bs_of]
          simp
          exact h4
      have cE0 := BE.cell 0
      have cE1 := BE.cell 1
      simp at cE0 cE1
      rcases f1 with _ | _
      all_goals
        rcases f2 with _ | _
        all_goals
          rcases B2 with _ | _
          all_goals
            rcases hq : (S2.toList == line.toList) with _ | _
            all_goals first
              | (exfalso; exact hall ⟨rfl, rfl, rfl, hq⟩)
              | skip
      all_goals
        clear hall
        have BN := BX
        have cN0 := BN.cell 0
        have cN1 := BN.cell 1
        have fN0 := BN.frozen 0
        have fN1 := BN.frozen 1
        simp at cN0 cN1
        go_wp2_with fail
        (try simp only [Exit.inBlock, Exit.then])
        refine bodyPost_ret (v := .tuple #[.agg #[.string ⟨#[]⟩, .string ⟨#[]⟩], .bool false]) (res_row_tmp rfl _ _ w.heap.size 27 #[.string ⟨#[]⟩, .string ⟨#[]⟩] (0, 0) _ _ (by simp) ((BN.set_ 0 _).set_ 1 _) Tryd.underlying27 rfl (by kernel_rfl) (by simp)) rfl ?_
        exact ⟨_, _, false, rfl, HNO.out, ((hT5).setCell (Nat.le_refl _) _).setCell (Nat.le_refl _) _⟩
end Go.Proofs.YteogfjddkaodkaaDoor
