
/- Walks: reading all records of a text, in the reference (l33Open). -/
import Derived.Test.YteogfjddkaodkaaDoorRead
namespace Go.Proofs.YteogfjddkaodkaaDoor
open Go.RowKit

theorem info_rec : (Tryd.prog.info? 27).map (fun i => (i.zero, i.size, i.bytes)) = some (some (.agg #[.string ⟨#[]⟩, .string ⟨#[]⟩]), 2, 32) := by kernel_rfl
def recCells (es : List (Bs × Bs)) : List Value := es.flatMap fun e => [.string (mk e.1), .string (mk e.2)]
theorem recCells_snoc (es : List (Bs × Bs)) (c r : Bs) : recCells (es ++ [(c, r)]) = recCells es ++ [.string (mk c), .string (mk r)] := by simp [recCells]

/-- append of one element of two cells to a row of the call's own. -/
theorem app2 {P : Program} (w0 : World) {ops : Array Oper} {rest : List Oper} {o : Oper} {a : Act} {Q : Exit → Act → World → Prop} (hgd : o.guard = none) (s x : Operand) (t e : TypeId)
    (ho : o.op = .call { callee := .builtin .append, args := #[s, x], argTypes := #[t, t] }) (z : Value) (bytes : Nat)
    (ht : P.underlying t = some (.slice e)) (hi : (P.info? e).map (fun i => (i.zero, i.size, i.bytes)) = some (some z, 2, bytes)) (hzs : z.cells.size = 2) (hbb : bytes ≤ 64)
    (base n c : Nat) (A : Option Addr) (xs : List Value) (hs : a.eval s = .slice A n c) (hown : w0.ownsRow base e 2 (.slice A n c) n xs) (u v : Value) (h1 : u.oneCell' = true) (h2 : v.oneCell' = true) (hx : a.eval x = .slice (some ⟨w0.heap.size, 0, none⟩) 1 1)
    (hn : n ≤ 1099511627776) (hbase : base ≤ w0.heap.size)
    (hK : ∀ A' c' w', w'.ownsRow base e 2 (.slice A' (n + 1) c') (n + 1) (xs ++ [u, v]) → w0.grownBy w' (Value.slice A n c).ownBlock → Below base w0 w' → wpList P ops Q rest (a.put o.dst (.slice A' (n + 1) c')) w') :
    wpList P ops Q (o :: rest) a (w0.alloc (.cells #[u, v] e)) := by
  obtain ⟨i, hi, hz, hsize, hby⟩ := info_parts hi
  have hbound : (n + 1) * bytes ≤ 140737488355328 := Nat.le_trans (Nat.mul_le_mul_left (n + 1) hbb) (by omega)
  refine wpList_plain hgd fun _ hK' => ?_
  refine wp_append_own (w0.alloc (.cells #[u, v] e)) s x t ho base e i z 2 bytes ht hi hz hsize hby hzs (by omega) (.slice A n c) n xs hs (hown.alloc _) ⟨w0.heap.size, 0, none⟩ 1 1 [u, v] hx rfl ?_ ?_ (by unfold maxLen; omega) hbound (by simp; omega) ?_
  · intro j y hj
    match j, hj with
    | 0, hj => simp at hj; subst hj; simp [Addr.add]
    | 1, hj => simp at hj; subst hj; simp [Addr.add]
  · intro y hy
    simp at hy
    rcases hy with rfl | rfl
    · exact h1
    · exact h2
  · intro v' w' hown' hgrow _
    obtain ⟨A', c', rfl⟩ := own_slice hown'
    have hg : w0.grownBy w' (Value.slice A n c).ownBlock :=
      ⟨hgrow.os, hgrow.tape, hgrow.output, Nat.le_trans (by simp) hgrow.size, fun k hk hne => (hgrow.block k (by simp; omega) hne).trans (Below.heap_alloc w0 _ k hk)⟩
    exact hK' _ _ (hK A' c' w' hown' hg ((Below.refl base w0).grown hg hbase (fun k hk => (hown.lt k hk).1)))

theorem own_cell {w w' : World} {b1 b2 e1 e2 s1 s2 n1 n2 m c : Nat} {p : Addr} {v2 y : Value} {x1 x2 : List Value} (h1 : w.ownsRow b1 e1 s1 (.slice (some p) m c) n1 x1) (h2 : w.ownsRow b2 e2 s2 v2 n2 x2) (he : e1 ≠ e2) (hg : w.grownBy w' v2.ownBlock) (hc : w.cell? p = some y) : w'.cell? p = some y := by
  rw [← hc]
  apply World.cell?_of_block
  obtain ⟨g, cap, cur, hv, -, hh, -⟩ := (h1.2.resolve_left (by rintro ⟨h, -⟩; simp at h))
  injection hv with hv
  injection hv with hv
  subst hv
  refine hg.block _ (Array.getElem?_eq_some_iff.1 hh).1 ?_
  intro hk
  rcases h2.2 with ⟨rfl, -⟩ | ⟨g2, cap2, cur2, rfl, -, hc2, -⟩
  · simp [Value.ownBlock] at hk
  · simp only [Value.ownBlock, Option.some.injEq] at hk
    subst hk
    rw [hh] at hc2
    injection hc2 with hc2
    injection hc2 with _ h3 _
    exact he h3

/-! ## one step of reading -/
theorem step_no {k : Nat} {l : Bs} (h : (10 : UInt8) ∉ l) : stepL k l = none := by
  rcases indexByte_cases l 10 with ⟨h1, -⟩ | ⟨i, -, -, h3, -⟩
  · unfold stepL; rw [h1]; rfl
  · exact absurd (List.mem_of_getElem? h3) h
theorem step_at {k : Nat} {l : Bs} (h : (10 : UInt8) ∈ l) : stepL k l = (decL k ((cutAt 10 l).1 ++ [10])).map fun e => (e, (cutAt 10 l).1.length + 1) := by
  obtain ⟨a, x, rfl, hn⟩ := split_at l h
  unfold stepL
  rw [indexByte_app hn, cutAt_app hn, if_neg (by omega), Int.toNat_natCast]
  have e : (a ++ 10 :: x).take (a.length + 1) = a ++ [10] := by
    rw [List.take_append, List.take_of_length_le (by omega)]
    simp
  rw [e]
/-- How far the reading has come: k records, the bytes up to p. -/
def ReadAt (s : Bs) (l : List ((Bs × Bs) × Nat)) (p : Nat) : Prop := readAll s = l ++ readL (60 - l.length) l.length (s.drop p) ∧ endOf l = p ∧ l.length ≤ 60 ∧ p ≤ s.length
theorem ReadAt.start (s : Bs) : ReadAt s [] 0 := ⟨rfl, rfl, by simp, Nat.zero_le _⟩
theorem endOf_snoc (l : List ((Bs × Bs) × Nat)) (e : (Bs × Bs) × Nat) : endOf (l ++ [e]) = endOf l + e.2 := by simp [endOf]
theorem recsOf_snoc (l : List ((Bs × Bs) × Nat)) (e : (Bs × Bs) × Nat) : recsOf (l ++ [e]) = recsOf l ++ [e.1] := by simp [recsOf]
theorem ReadAt.stop {s : Bs} {l : List ((Bs × Bs) × Nat)} {p : Nat} (h : ReadAt s l p) (hs : stepL l.length (s.drop p) = none) : readAll s = l := by
  have h1 := h.1
  cases hf : 60 - l.length with
  | zero => rw [hf] at h1; simpa [readL] using h1
  | succ f => rw [hf, readL, hs] at h1; simpa using h1
theorem ReadAt.full {s : Bs} {l : List ((Bs × Bs) × Nat)} {p : Nat} (h : ReadAt s l p) (hl : 60 ≤ l.length) : readAll s = l := by
  have h1 := h.1
  rw [show 60 - l.length = 0 by omega] at h1
  simpa [readL] using h1
theorem ReadAt.atEnd {s : Bs} {l : List ((Bs × Bs) × Nat)} {p : Nat} (h : ReadAt s l p) (hp : s.length ≤ p) : readAll s = l := by
  refine h.stop ?_
  rw [List.drop_eq_nil_of_le hp]
  rfl
theorem ReadAt.step {s : Bs} {l : List ((Bs × Bs) × Nat)} {p m : Nat} {e : Bs × Bs} (h : ReadAt s l p) (hl : l.length < 60) (hs : stepL l.length (s.drop p) = some (e, m)) : ReadAt s (l ++ [(e, m)]) (p + m) := by
  have h1 := h.1
  obtain ⟨f, hf⟩ : ∃ f, 60 - l.length = f + 1 := ⟨59 - l.length, by omega⟩
  obtain ⟨c, r⟩ := e
  obtain ⟨-, -, hm, t, ht⟩ := step_some.1 hs
  have hlen : p + m ≤ s.length := by
    have := congrArg List.length ht
    rw [List.length_drop, List.length_append] at this
    have := h.2.2.2
    omega
  refine ⟨?_, by rw [endOf_snoc, h.2.1], by rw [List.length_append]; simp; omega, hlen⟩
  rw [hf, readL, hs] at h1
  simp only [List.drop_drop] at h1
  rw [h1, List.append_assoc, List.length_append]
  simp only [List.singleton_append, List.length_singleton]
  rw [show 60 - (l.length + 1) = f by omega]

def OpenR (w : World) (l : List ((Bs × Bs) × Nat)) (e : Ending) (w' : World) : Prop :=
  ∃ A c, e = .returned (.tuple #[.slice A l.length c, .int .i64 (endOf l)]) ∧ w'.ownsRow w.heap.size 27 2 (.slice A l.length c) l.length (recCells (recsOf l)) ∧ Below w.heap.size w w'
theorem ret_si {A : Option Addr} {n m c : Nat} {x y : Int} (h : n = m) (h' : x = y) : Ending.returned (.tuple #[.slice A n c, .int .i64 x]) = .returned (.tuple #[.slice A m c, .int .i64 y]) := by rw [h, h']

set_option maxRecDepth 20000 in
set_option maxHeartbeats 4000000 in
theorem l33Open_any (s : ByteArray) (w : World) (hs : s.size ≤ 1048576) :
    Calls Tryd.prog 47 #[.string s] w (OpenR w (readAll (bs s))) := by
  go_enter Tryd.func47, Tryd.ntmps47
  go_wp2
  go_loopw [4, 5, 6, 7, 8] (fun v i _ _ _ wr => ∃ (p k : Nat) (l : List ((Bs × Bs) × Nat)) (A : Option Addr) (c : Nat), i = .int .i64 p ∧ v = .slice A k c ∧ k ≤ 60 ∧ p ≤ s.size ∧ l.length = k ∧ wr.ownsRow w.heap.size 27 2 (.slice A k c) k (recCells (recsOf l)) ∧ ReadAt (bs s) l p ∧ Below w.heap.size w wr) (fun _ i _ _ _ _ => s.size - (intOf i).toNat)
  case atStart => exact ⟨0, 0, [], _, _, rfl, rfl, Nat.zero_le _, Nat.zero_le _, rfl, World.ownsRow_lit _ _ _ (Nat.le_refl _) (Nat.zero_le _) rfl, ReadAt.start _, below_box _ _⟩
  case round =>
    obtain ⟨p, k, l, A, c, rfl, rfl, hk, hp, hlk, hown, H, hT⟩ := hrel
    have HLK := Lib.hid hlk
    clear hlk
    have hbase := hT.size
    by_cases hps : p < s.size
    rotate_left
    · have HE := Lib.hid (H.atEnd (by have : (bs s).length = s.size := rfl; omega))
      have HP := Lib.hid H.2.1
      go_wp2
      go_ret2
      have hl : (readAll (bs s)).length = k := by rw [HE.out, HLK.out]
      exact ⟨A, c, ret_si hl.symm (by rw [HE.out, HP.out]), by rw [hl, HE.out]; exact hown, hT⟩
    · by_cases hk60 : k < 60
      rotate_left
      · have HE := Lib.hid (H.full (by rw [HLK.out]; omega))
        have HP := Lib.hid H.2.1
        go_wp2
        go_ret2
        have hl : (readAll (bs s)).length = k := by rw [HE.out, HLK.out]
        exact ⟨A, c, ret_si hl.symm (by rw [HE.out, HP.out]), by rw [hl, HE.out]; exact hown, hT⟩
      · obtain ⟨R, HR⟩ : ∃ R, Hid (s.extract p s.size = R) := ⟨_, rfl⟩
        have HRB : Hid (bs R = (bs s).drop p) := by
          show _ = _
          rw [← HR.out, bs_ext, List.take_of_length_le (by rw [List.length_drop]; exact Nat.le_refl _)]
        have hrs : R.size ≤ 1048576 := by
          have h2 := congrArg List.length HRB.out
          have h3 : (bs s).length = s.size := rfl
          have h4 : (bs R).length = R.size := rfl
          rw [List.length_drop] at h2
          omega
        have hp0 : (0 : Int) ≤ (p : Int) := by omega
        have hp1 : (p : Int) ≤ (s.size : Int) := by omega
        go_wp2_with fail
        rw [HR.out]
        refine (l1Split_own R 10 10 rfl _ (by omega)).mono ?_
        rintro e w3 ⟨B, d, rfl, hs3, hb3, hm3⟩
        have hr3 := rd_strs hm3 hs3 rfl
        obtain ⟨g3, o3, rfl, hc3⟩ := split_zero hr3
        have hT3 := below_next hT hb3 rfl
        have hown3 := own_next hown hb3
        have hsp3 := split_bound 10 (bs R)
        have HTW := Lib.hid (split_two 10 (bs R))
        obtain ⟨n3, HN3⟩ : ∃ n, Hid ((splitL 10 (bs R)).length = n) := ⟨_, rfl⟩
        obtain ⟨Q, HQQ⟩ : ∃ T, Hid (mk (cutAt 10 (bs R)).1 = T) := ⟨_, rfl⟩
        obtain ⟨zs3, HZ3⟩ : ∃ zs, Hid (strs (splitL 10 (bs R)) = zs) := ⟨_, rfl⟩
        rw [HZ3.out] at hs3
        have hs3' := hs3
        rw [HN3.out] at hsp3 HTW hs3 ⊢
        clear hs3' hm3
        rw [HQQ.out] at hc3
        have HQB : Hid ((cutAt 10 (bs R)).1 = bs Q) := by show _ = _; rw [← HQQ.out]; rfl
        have hqs : Q.size ≤ R.size := by
          have h1 := (cutAt_len 10 (bs R)).1
          have h2 := congrArg List.length HQB.out
          have h3 : (bs Q).length = Q.size := rfl
          have h4 : (bs R).length = R.size := rfl
          omega
        clear hr3 hb3 hown hT
        go_wp2_with fail
        refine (l33Read_any k Q _ hk60 (by omega)).mono ?_
        rintro e w4 ⟨x, y, ok, rfl, hdec, hb4⟩
        have HDEC := Lib.hid hdec
        have hT4 := below_next hT3 hb4 rfl
        have hown4 := own_next hown3 hb4
        have hc4 := keepc hb4 hc3
        have hs4 := own_next hs3 hb4
        clear hdec hc3 hb4 hown3 hT3 hs3
        have hbe := below_box w4 (.cells #[.string x, .string y] 27)
        have BE := Blk.new w4 27 #[.string x, .string y]
        obtain ⟨w5, hw5⟩ : ∃ w5, Hid (w5 = w4.alloc (.cells #[.string x, .string y] 27)) := ⟨_, rfl⟩
        by_cases h10 : (10 : UInt8) ∈ bs R
        rotate_left
        · have hn3 : ¬ 2 ≤ n3 := fun h => h10 (HTW.out.1 h)
          have HE := Lib.hid (H.stop (by rw [HLK.out, ← HRB.out]; exact step_no h10))
          have HP := Lib.hid H.2.1
          have hl : (readAll (bs s)).length = k := by rw [HE.out, HLK.out]
          go_wp2_with fail
          go_ret2
          exact ⟨A, c, ret_si hl.symm (by rw [HE.out, HP.out]), by rw [hl, HE.out]; exact own_next hown4 hbe, below_next hT4 hbe rfl⟩
        · have hn3 : 2 ≤ n3 := HTW.out.2 h10
          have hn3' : ¬ (n3 : Int) < 2 := by omega
          have HST : Hid (stepL l.length ((bs s).drop p) = (decL k (bs Q ++ [10])).map fun e => (e, (bs Q).length + 1)) := by
            show _ = _
            rw [HLK.out, ← HRB.out, step_at h10, HQB.out]
          have hDE := HDEC.out
          unfold DecR at hDE
          rcases hok : ok with _ | _
          · subst hok
            have HE := Lib.hid (H.stop (by
              rw [HST.out]
              rcases hd : decL k (bs Q ++ [10]) with _ | ⟨c1, r1⟩
              · rfl
              · rw [hd] at hDE; simp at hDE))
            have HP := Lib.hid H.2.1
            have hl : (readAll (bs s)).length = k := by rw [HE.out, HLK.out]
            clear hDE
            go_wp2_with fail
            all_goals (go_ret2; exact ⟨A, c, ret_si hl.symm (by rw [HE.out, HP.out]), by rw [hl, HE.out]; exact own_next hown4 hbe, below_next hT4 hbe rfl⟩)
          · subst hok
            have HS : Hid (stepL l.length ((bs s).drop p) = some ((bs x, bs y), Q.size + 1)) := by
              show _ = _
              rw [HST.out]
              rcases hd : decL k (bs Q ++ [10]) with _ | ⟨c1, r1⟩
              · rw [hd] at hDE; simp at hDE
              · rw [hd] at hDE
                simp at hDE
                obtain ⟨rfl, rfl⟩ := hDE
                rfl
            clear hDE
            have H' := H.step (by rw [HLK.out]; omega) HS.out
            have hown5 := own_next hown4 hbe
            have hT5 := below_next hT4 hbe rfl
            have c50 : (w4.alloc (.cells #[.string x, .string y] 27)).cell? ⟨w4.heap.size, 0, none⟩ = some (.string x) := by simp
            have c51 : (w4.alloc (.cells #[.string x, .string y] 27)).cell? ⟨w4.heap.size, 1, none⟩ = some (.string y) := by simp
            have hc5 := keepc hbe hc4
            have hs5 := own_next hs4 hbe
            have hb5 : w.heap.size ≤ (w4.alloc (.cells #[.string x, .string y] 27)).heap.size := hT5.size
            rw [← hw5.out] at hown5 hT5 c50 c51 hc5 hs5 hb5
            clear hbe BE
            go_wp2_with (first | (rw [← hw5.out]; clear hw5) | (at_builtin; refine app2 w5 rfl _ _ 48 27 rfl (.agg #[.string ⟨#[]⟩, .string ⟨#[]⟩]) 32 Tryd.underlying48 info_rec rfl (by decide) w.heap.size k c A (recCells (recsOf l)) rfl hown5 (.string x) (.string y) rfl rfl rfl (by omega) hb5 ?_; intro A3 c3 w6 hown6 hg6 hb6; have hT6 := hT5.trans hb6; have hc6 : w6.cell? ⟨g3, o3, none⟩ = some (.string Q) := own_cell hs5 hown5 (by decide) hg6 hc5; clear hown5 hb6 hc5 c50 c51 hs5 hs4))
            go_roundw
            case rel => exact ⟨p + (Q.size + 1), k + 1, l ++ [((bs x, bs y), Q.size + 1)], A3, c3, by go_num, rfl, by omega, H'.2.2.2, by rw [List.length_append, HLK.out]; rfl, by rw [recsOf_snoc, recCells_snoc]; exact hown6, H', hT6⟩
            case measure => simp [intOf]; omega
end Go.Proofs.YteogfjddkaodkaaDoor
