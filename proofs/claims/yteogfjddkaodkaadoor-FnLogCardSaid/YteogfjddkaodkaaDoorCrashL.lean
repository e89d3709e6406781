
/- Plain laws: what is read of a text with a torn last byte, of a beginning of a log, of a log with a record more. -/
import Derived.Test.YteogfjddkaodkaaDoorRecL
import Derived.Test.YteogfjddkaodkaaDoorCrash
import Derived.Test.YteogfjddkaodkaaDoorLogRecs
import Derived.Test.YteogfjddkaodkaaDoorAppL
namespace Go.Proofs.YteogfjddkaodkaaDoor
open Go.RowKit

theorem last_line {k : Nat} {c r s t : Bs} {x : UInt8} (hx : x ≠ 10) (h : s ++ [x] = lineL k c r ++ t) : ∃ t', s = lineL k c r ++ t' ∧ t = t' ++ [x] := by
  rcases List.eq_nil_or_concat t with rfl | ⟨t', y, rfl⟩
  · exfalso
    rw [List.append_nil, show lineL k c r = sealL (bodyL k c r) ++ [10] from rfl] at h
    have := (List.append_inj' h rfl).2
    simp at this
    exact hx this
  · rw [List.concat_eq_append] at h ⊢
    rw [← List.append_assoc] at h
    obtain ⟨h1, h2⟩ := List.append_inj' h rfl
    simp at h2
    subst h2
    exact ⟨t', h1, rfl⟩
theorem step_torn {k : Nat} {s : Bs} {x : UInt8} (hx : x ≠ 10) : stepL k (s ++ [x]) = stepL k s := by
  rcases h : stepL k s with _ | ⟨⟨c, r⟩, m⟩
  · rcases h2 : stepL k (s ++ [x]) with _ | ⟨⟨c, r⟩, m⟩
    · rfl
    · obtain ⟨h3, h4, h5, t, h6⟩ := step_some.1 h2
      obtain ⟨t', h7, -⟩ := last_line hx h6
      rw [step_some.2 ⟨h3, h4, h5, t', h7⟩] at h
      cases h
  · obtain ⟨h3, h4, h5, t, h6⟩ := step_some.1 h
    exact step_some.2 ⟨h3, h4, h5, t ++ [x], by rw [h6, List.append_assoc]⟩
theorem read_torn {x : UInt8} (hx : x ≠ 10) : ∀ (f k : Nat) (s : Bs), readL f k (s ++ [x]) = readL f k s
  | 0, _, _ => rfl
  | f + 1, k, s => by
    rw [readL, readL, step_torn hx]
    rcases h : stepL k s with _ | ⟨⟨c, r⟩, m⟩
    · rfl
    · obtain ⟨h3, h4, h5, t, h6⟩ := step_some.1 h
      have hd : (s ++ [x]).drop m = s.drop m ++ [x] := by
        rw [List.drop_append_of_le_length (by rw [h6, h5, List.length_append]; omega)]
      simp only
      rw [hd, read_torn hx f (k + 1)]
theorem read_prefix {P q : Bs} {es : List (Bs × Bs)} (hP : P ++ q = linesL 0 es) (hg : AllGood es) (hn : es.length ≤ 60) : ∃ rest, es = recsOf (readAll P) ++ rest := by
  obtain ⟨h1, h2, h3, t, h4⟩ := readAll_split P
  obtain ⟨h5, h6⟩ := readAll_lines hg hn
  obtain ⟨l, l1, l2, l3⟩ := read_lines (recsOf (readAll P)) 60 0 (t ++ q) h1 (by rw [recsOf_len]; exact h2) (by rw [recsOf_len]; omega)
  rw [← List.append_assoc, ← h4, hP] at l3
  refine ⟨recsOf (readL (60 - (recsOf (readAll P)).length) (0 + (recsOf (readAll P)).length) (t ++ q)), ?_⟩
  rw [← h5]
  unfold readAll at *
  rw [l3]
  unfold recsOf at *
  rw [List.map_append, l1]
theorem line_bytes {k : Nat} {c r : Bs} (hg : Good c r) : ∀ b ∈ lineL k c r, b.toNat ≤ 126 := by
  intro b hb
  rw [line_eq] at hb
  simp only [List.mem_append, List.mem_cons, List.not_mem_nil, or_false] at hb
  rcases hb with h | rfl | h | rfl | h | rfl | h | rfl
  · have := dec_digit k b h; omega
  · decide
  · have := hg.oc b h; omega
  · decide
  · have := hg.orr b h; omega
  · decide
  · have := dec_digit _ b h; omega
  · decide
theorem lines_bytes : ∀ {es : List (Bs × Bs)} {k : Nat}, AllGood es → ∀ b ∈ linesL k es, b.toNat ≤ 126
  | [], _, _, b, hb => by simp [linesL] at hb
  | e :: es, k, hg, b, hb => by
    rw [linesL, List.mem_append] at hb
    rcases hb with hb | hb
    · exact line_bytes (goodL_good (hg e (List.mem_cons_self ..))) b hb
    · exact lines_bytes (fun x hx => hg x (List.mem_cons_of_mem _ hx)) b hb
theorem endOf_app (a b : List ((Bs × Bs) × Nat)) : endOf (a ++ b) = endOf a + endOf b := by simp [endOf]
/-- What is read of a text that begins with whole lines. -/
theorem read_ge {d t : Bs} (h : endOf (readAll d) = d.length) : d.length ≤ endOf (readAll (d ++ t)) := by
  have hd := readAll_whole h
  obtain ⟨h1, h2, h3, -⟩ := readAll_split d
  obtain ⟨l, l1, l2, l3⟩ := read_lines (recsOf (readAll d)) 60 0 t h1 (by rw [recsOf_len]; exact h2) (by rw [recsOf_len]; omega)
  rw [← hd] at l2 l3
  unfold readAll at *
  rw [l3, endOf_app, l2]
  omega
theorem vS_parts {d p : ByteArray} {n : Int} (h : vS (d ++ p) d n = true) : d.size + p.size ≤ 30000 ∧ endA (d ++ p) = (d ++ p).size ∧ endA d = d.size ∧ (cntA (d ++ p) : Int) = n := by
  unfold vS at h
  simp only [Bool.and_eq_true, decide_eq_true_eq] at h
  rw [size_app] at h
  rw [size_app]
  exact ⟨by omega, h.2.1, h.2.2.1, h.2.2.2⟩
theorem vS_lines {d p : ByteArray} {n : Int} (h : vS (d ++ p) d n = true) : bs d ++ bs p = linesL 0 (recsOf (readAll (bs (d ++ p)))) := by
  obtain ⟨-, h2, -, -⟩ := vS_parts h
  have := readAll_whole (s := bs (d ++ p)) h2
  rw [← bs_app]
  exact this
theorem crash_facts {d p : ByteArray} {n keep : Int} {torn : Bool} (h : crB d p n keep = true) :
    (crS d p n keep torn).size ≤ 30000 ∧ d.size ≤ endA (crS d p n keep torn) ∧ ∃ rest, recsOf (readAll (bs (d ++ p))) = recsOf (readAll (bs (crS d p n keep torn))) ++ rest := by
  have hv : vS (d ++ p) d n = true := by unfold crB at h; rw [Bool.and_eq_true] at h; exact h.1
  have hk : 0 ≤ keep ∧ keep ≤ p.size := by unfold crB inB at h; simp at h; omega
  obtain ⟨k, rfl⟩ := Int.eq_ofNat_of_zero_le hk.1
  have hkp : k ≤ (bs p).length := by have : (bs p).length = p.size := rfl; omega
  obtain ⟨v1, v2, v3, v4⟩ := vS_parts hv
  have hl := vS_lines hv
  obtain ⟨g1, g2, -, -⟩ := readAll_split (bs (d ++ p))
  have hs : bs (crS d p n k torn) = bs d ++ tornL ((bs p).take k) torn := by
    unfold crS
    rw [if_pos h, bs_app, Int.toNat_natCast]
    rfl
  have htl : (tornL ((bs p).take k) torn).length = k := by
    unfold tornL
    split
    · rw [List.length_set, List.length_take]; omega
    · rw [List.length_take]; omega
  have hsz : (crS d p n k torn).size = d.size + k := by
    have := congrArg List.length hs
    rw [List.length_append, htl] at this
    exact this
  have hd : endOf (readAll (bs d)) = (bs d).length := v3
  refine ⟨by omega, ?_, ?_⟩
  · unfold endA
    rw [hs]
    exact read_ge hd
  · rw [hs]
    by_cases ht : (torn && decide (0 < ((bs p).take k).length)) = true
    · have hk0 : 0 < k := by rw [Bool.and_eq_true, decide_eq_true_eq, List.length_take] at ht; omega
      have hbl : k - 1 < (bs p).length := by omega
      have e1 : tornL ((bs p).take k) torn = (bs p).take (k - 1) ++ [UInt8.ofNat (255 - ((bs p)[k - 1]).toNat)] := by
        unfold tornL
        rw [if_pos ht]
        have e2 : (bs p).take k = (bs p).take (k - 1) ++ [(bs p)[k - 1]] := by
          have := List.take_succ_eq_append_getElem hbl
          rw [show k - 1 + 1 = k by omega] at this
          exact this
        have e3 : ((bs p).take (k - 1)).length = k - 1 := by rw [List.length_take]; omega
        have e4 : ((bs p).take k).length - 1 = k - 1 := by rw [List.length_take]; omega
        rw [e4, e2, List.getElem?_append_right (by omega), e3, Nat.sub_self, List.set_append_right _ _ (by omega), e3, Nat.sub_self]
        rfl
      have hb : ((bs p)[k - 1]).toNat ≤ 126 := by
        refine lines_bytes (k := 0) g1 _ ?_
        rw [← hl, List.mem_append]
        exact .inr (List.getElem_mem hbl)
      have hx : UInt8.ofNat (255 - ((bs p)[k - 1]).toNat) ≠ 10 := fun e => by
        have := congrArg UInt8.toNat e
        rw [u8_toNat (by omega)] at this
        have h10 : (10 : UInt8).toNat = 10 := rfl
        omega
      rw [e1, ← List.append_assoc]
      have hr : readAll ((bs d ++ (bs p).take (k - 1)) ++ [UInt8.ofNat (255 - ((bs p)[k - 1]).toNat)]) = readAll (bs d ++ (bs p).take (k - 1)) := read_torn hx 60 0 _
      rw [hr]
      exact read_prefix (q := (bs p).drop (k - 1)) (by rw [List.append_assoc, List.take_append_drop]; exact hl) g1 (by rw [recsOf_len]; exact g2)
    · have e1 : tornL ((bs p).take k) torn = (bs p).take k := by unfold tornL; rw [if_neg ht]
      rw [e1]
      exact read_prefix (q := (bs p).drop k) (by rw [List.append_assoc, List.take_append_drop]; exact hl) g1 (by rw [recsOf_len]; exact g2)
/-- The records of a recovered log. -/
theorem rec_records {s : ByteArray} (h : s.size ≤ 30000) : lrEs (recD s) ⟨#[]⟩ (recN s) = recsOf (readAll (bs s)) := by
  have h' : ¬ 30000 < s.size := by omega
  obtain ⟨h1, h2, -, -⟩ := readAll_split (bs s)
  unfold lrEs
  rw [if_pos (rec_valid h'), app_nil, recD_bs h']
  exact (readAll_lines h1 (by rw [recsOf_len]; exact h2)).1

/-! ## A record more -/
theorem app_facts {d p : ByteArray} {n : Int} {c r : ByteArray} (h : apC d p n c r = 0) :
    vS (d ++ p) d n = true ∧ goodB c r = true ∧ 0 ≤ n ∧ n < 60 ∧ apP d p n c r = p ++ mk (lineL n.toNat (bs c) (bs r)) ∧ apN d p n c r = n + 1 := by
  have hv : (vS (d ++ p) d n && goodB c r) = true := by
    rcases e : (vS (d ++ p) d n && goodB c r) with _ | _
    · unfold apC at h; rw [e] at h; simp at h
    · rfl
  have hn : ¬ n = 60 := by
    intro e
    unfold apC at h
    rw [hv, if_pos rfl, if_pos e] at h
    omega
  rw [Bool.and_eq_true] at hv
  obtain ⟨k, hk, hk60, -⟩ := vS_facts hv.1
  refine ⟨hv.1, hv.2, by omega, by omega, ?_, ?_⟩
  · unfold apP; rw [if_pos h]
  · unfold apN; rw [if_pos h]
theorem app_valid {d p : ByteArray} {n : Int} {c r : ByteArray} (h : apC d p n c r = 0) :
    vS (d ++ apP d p n c r) d (apN d p n c r) = true ∧ recsOf (readAll (bs (d ++ apP d p n c r))) = recsOf (readAll (bs (d ++ p))) ++ [(bs c, bs r)] ∧ endA (d ++ apP d p n c r) = (d ++ apP d p n c r).size ∧ (cntA (d ++ apP d p n c r) : Int) = n + 1 ∧ (d ++ apP d p n c r).size ≤ 30000 := by
  obtain ⟨hv, hg, hn0, hn1, hP, hN⟩ := app_facts h
  obtain ⟨v1, v2, v3, v4⟩ := vS_parts hv
  have hl := vS_lines hv
  obtain ⟨g1, g2, -, -⟩ := readAll_split (bs (d ++ p))
  have hlen : (recsOf (readAll (bs (d ++ p)))).length = n.toNat := by
    rw [recsOf_len]
    have : ((readAll (bs (d ++ p))).length : Int) = n := v4
    omega
  have hb : bs (d ++ apP d p n c r) = linesL 0 (recsOf (readAll (bs (d ++ p))) ++ [(bs c, bs r)]) := by
    rw [hP, bs_app, bs_app, linesL_app, ← hl, hlen, ← List.append_assoc]
    simp [linesL, bs]
    rfl
  have hg' : AllGood (recsOf (readAll (bs (d ++ p))) ++ [(bs c, bs r)]) := fun e he => by
    rcases List.mem_append.1 he with he | he
    · exact g1 e he
    · simp at he
      subst he
      rw [← goodB_eq]
      exact hg
  have hl60 : (recsOf (readAll (bs (d ++ p))) ++ [(bs c, bs r)]).length ≤ 60 := by rw [List.length_append, hlen]; simp; omega
  obtain ⟨r1, r2⟩ := readAll_lines hg' hl60
  have hll := lines_len (k := 0) hg' (by omega)
  rw [← hb] at r1 r2 hll
  have hsz : (d ++ apP d p n c r).size ≤ 30000 := by
    have : (bs (d ++ apP d p n c r)).length = (d ++ apP d p n c r).size := rfl
    omega
  have hcnt : (cntA (d ++ apP d p n c r) : Int) = n + 1 := by
    have := congrArg List.length r1
    rw [recsOf_len, List.length_append, hlen] at this
    show ((readAll (bs (d ++ apP d p n c r))).length : Int) = _
    rw [this]
    simp
    omega
  refine ⟨?_, r1, r2, hcnt, hsz⟩
  unfold vS
  simp only [Bool.and_eq_true, decide_eq_true_eq]
  exact ⟨by omega, r2, v3, by rw [hN]; exact hcnt⟩
end Go.Proofs.YteogfjddkaodkaaDoor
