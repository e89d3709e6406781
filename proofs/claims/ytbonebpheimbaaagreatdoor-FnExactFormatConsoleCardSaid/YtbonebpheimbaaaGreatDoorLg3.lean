
/- Walks and plain laws of records and logs (joined by genlg.py out of the texts of the log family; a namespace of their own). -/
import Derived.Test.YtbonebpheimbaaaGreatDoorLg2
namespace Go.Proofs.YtbonebpheimbaaaGreatDoor.Lg
open Go.RowKit

theorem info_rec : (Tryz.prog.info? 131).map (fun i => (i.zero, i.size, i.bytes)) = some (some (.agg #[.string ⟨#[]⟩, .string ⟨#[]⟩]), 2, 32) := by kernel_rfl
def recCells (es : List (Bs × Bs)) : List Value := es.flatMap fun e => [.string (mk e.1), .string (mk e.2)]
theorem recCells_snoc (es : List (Bs × Bs)) (c r : Bs) : recCells (es ++ [(c, r)]) = recCells es ++ [.string (mk c), .string (mk r)] := by simp [recCells]

/-- append of one element of two cells to a row of the call's own. -/
theorem app2 {P : Program} (w0 : World) {ops : Array Oper} {rest : List Oper} {o : Oper} {a : Act} {Q : Exit → Act → World → Prop} (hgd : o.guard = none) (s x : Operand) (t e : TypeId)
    (ho : o.op = .call { callee := .builtin .append, args := #[s, x], argTypes := #[t, t] }) (z : Value) (bytes : Nat)
    (ht : P.underlying t = some (.slice e)) (hi : (P.info? e).map (fun i => (i.zero, i.size, i.bytes)) = some (some z, 2, bytes)) (hzs : z.cells.size = 2) (hbb : bytes ≤ 64)
    (base n c : Nat) (A : Option Addr) (xs : List Value) (hs : a.eval s = .slice A n c) (hown : w0.ownsRow base e 2 (.slice A n c) n xs) (u v : Value) (h1 : u.oneCell' = true) (h2 : v.oneCell' = true) (hx : a.eval x = .slice (some ⟨w0.heap.size, 0, none⟩) 1 1)
    (hn : n ≤ 1099511627776) (hbase : base ≤ w0.heap.size)
    (hK : ∀ A' c' w', w'.ownsRow base e 2 (.slice A' (n + 1) c') (n + 1) (xs ++ [u, v]) → w0.grownBy w' (Value.slice A n c).ownBlock → Below base w0 w' → wpList P ops Q rest (a.put o.dst (.slice A' (n + 1) c')) w') :
    wpList P ops Q (o :: rest) a (w0.alloc (.cells #[u, v] e)) := by
  obtain ⟨i, hi, hz, hsize, hby⟩ := info_parts hi
  have hbound : (n + 1) * bytes ≤ 140737488355328 := Nat.le_trans (Nat.mul_le_mul_left (n + 1) hbb) (by omega)
  refine wpList_plain hgd fun _ hK' => ?_
  refine wp_append_own (w0.alloc (.cells #[u, v] e)) s x t ho base e i z 2 bytes ht hi hz hsize hby hzs (by omega) (.slice A n c) n xs hs (hown.alloc _) ⟨w0.heap.size, 0, none⟩ 1 1 [u, v] hx rfl ?_ ?_ (by unfold maxLen; omega) hbound (by simp; omega) ?_
  · intro j y hj
    match j, hj with
    | 0, hj => simp at hj; subst hj; simp [Addr.add]
    | 1, hj => simp at hj; subst hj; simp [Addr.add]
  · intro y hy
    simp at hy
    rcases hy with rfl | rfl
    · exact h1
    · exact h2
  · intro v' w' hown' hgrow _
    obtain ⟨A', c', rfl⟩ := own_slice hown'
    have hg : w0.grownBy w' (Value.slice A n c).ownBlock :=
      ⟨hgrow.os, hgrow.tape, hgrow.output, Nat.le_trans (by simp) hgrow.size, fun k hk hne => (hgrow.block k (by simp; omega) hne).trans (Below.heap_alloc w0 _ k hk)⟩
    exact hK' _ _ (hK A' c' w' hown' hg ((Below.refl base w0).grown hg hbase (fun k hk => (hown.lt k hk).1)))

theorem own_cell {w w' : World} {b1 b2 e1 e2 s1 s2 n1 n2 m c : Nat} {p : Addr} {v2 y : Value} {x1 x2 : List Value} (h1 : w.ownsRow b1 e1 s1 (.slice (some p) m c) n1 x1) (h2 : w.ownsRow b2 e2 s2 v2 n2 x2) (he : e1 ≠ e2) (hg : w.grownBy w' v2.ownBlock) (hc : w.cell? p = some y) : w'.cell? p = some y := by
  rw [← hc]
  apply World.cell?_of_block
  obtain ⟨g, cap, cur, hv, -, hh, -⟩ := (h1.2.resolve_left (by rintro ⟨h, -⟩; simp at h))
  injection hv with hv
  injection hv with hv
  subst hv
  refine hg.block _ (Array.getElem?_eq_some_iff.1 hh).1 ?_
  intro hk
  rcases h2.2 with ⟨rfl, -⟩ | ⟨g2, cap2, cur2, rfl, -, hc2, -⟩
  · simp [Value.ownBlock] at hk
  · simp only [Value.ownBlock, Option.some.injEq] at hk
    subst hk
    rw [hh] at hc2
    injection hc2 with hc2
    injection hc2 with _ h3 _
    exact he h3

/-! ## one step of reading -/
theorem step_no {k : Nat} {l : Bs} (h : (10 : UInt8) ∉ l) : stepL k l = none := by
  rcases indexByte_cases l 10 with ⟨h1, -⟩ | ⟨i, -, -, h3, -⟩
  · unfold stepL; rw [h1]; rfl
  · exact absurd (List.mem_of_getElem? h3) h
theorem step_at {k : Nat} {l : Bs} (h : (10 : UInt8) ∈ l) : stepL k l = (decL k ((cutAt 10 l).1 ++ [10])).map fun e => (e, (cutAt 10 l).1.length + 1) := by
  obtain ⟨a, x, rfl, hn⟩ := split_at l h
  unfold stepL
  rw [indexByte_app hn, cutAt_app hn, if_neg (by omega), Int.toNat_natCast]
  have e : (a ++ 10 :: x).take (a.length + 1) = a ++ [10] := by
    rw [List.take_append, List.take_of_length_le (by omega)]
    simp
  rw [e]
/-- How far the reading has come: k records, the bytes up to p. -/
def ReadAt (s : Bs) (l : List ((Bs × Bs) × Nat)) (p : Nat) : Prop := readAll s = l ++ readL (60 - l.length) l.length (s.drop p) ∧ endOf l = p ∧ l.length ≤ 60 ∧ p ≤ s.length
theorem ReadAt.start (s : Bs) : ReadAt s [] 0 := ⟨rfl, rfl, by simp, Nat.zero_le _⟩
theorem endOf_snoc (l : List ((Bs × Bs) × Nat)) (e : (Bs × Bs) × Nat) : endOf (l ++ [e]) = endOf l + e.2 := by simp [endOf]
theorem recsOf_snoc (l : List ((Bs × Bs) × Nat)) (e : (Bs × Bs) × Nat) : recsOf (l ++ [e]) = recsOf l ++ [e.1] := by simp [recsOf]
theorem ReadAt.stop {s : Bs} {l : List ((Bs × Bs) × Nat)} {p : Nat} (h : ReadAt s l p) (hs : stepL l.length (s.drop p) = none) : readAll s = l := by
  have h1 := h.1
  cases hf : 60 - l.length with
  | zero => rw [hf] at h1; simpa [readL] using h1
  | succ f => rw [hf, readL, hs] at h1; simpa using h1
theorem ReadAt.full {s : Bs} {l : List ((Bs × Bs) × Nat)} {p : Nat} (h : ReadAt s l p) (hl : 60 ≤ l.length) : readAll s = l := by
  have h1 := h.1
  rw [show 60 - l.length = 0 by omega] at h1
  simpa [readL] using h1
theorem ReadAt.atEnd {s : Bs} {l : List ((Bs × Bs) × Nat)} {p : Nat} (h : ReadAt s l p) (hp : s.length ≤ p) : readAll s = l := by
  refine h.stop ?_
  rw [List.drop_eq_nil_of_le hp]
  rfl
theorem ReadAt.step {s : Bs} {l : List ((Bs × Bs) × Nat)} {p m : Nat} {e : Bs × Bs} (h : ReadAt s l p) (hl : l.length < 60) (hs : stepL l.length (s.drop p) = some (e, m)) : ReadAt s (l ++ [(e, m)]) (p + m) := by
  have h1 := h.1
  obtain ⟨f, hf⟩ : ∃ f, 60 - l.length = f + 1 := ⟨59 - l.length, by omega⟩
  obtain ⟨c, r⟩ := e
  obtain ⟨-, -, hm, t, ht⟩ := step_some.1 hs
  have hlen : p + m ≤ s.length := by
    have := congrArg List.length ht
    rw [List.length_drop, List.length_append] at this
    have := h.2.2.2
    omega
  refine ⟨?_, by rw [endOf_snoc, h.2.1], by rw [List.length_append]; simp; omega, hlen⟩
  rw [hf, readL, hs] at h1
  simp only [List.drop_drop] at h1
  rw [h1, List.append_assoc, List.length_append]
  simp only [List.singleton_append, List.length_singleton]
  rw [show 60 - (l.length + 1) = f by omega]

def OpenR (w : World) (l : List ((Bs × Bs) × Nat)) (e : Ending) (w' : World) : Prop :=
  ∃ A c, e = .returned (.tuple #[.slice A l.length c, .int .i64 (endOf l)]) ∧ w'.ownsRow w.heap.size 131 2 (.slice A l.length c) l.length (recCells (recsOf l)) ∧ Below w.heap.size w w'
theorem ret_si {A : Option Addr} {n m c : Nat} {x y : Int} (h : n = m) (h' : x = y) : Ending.returned (.tuple #[.slice A n c, .int .i64 x]) = .returned (.tuple #[.slice A m c, .int .i64 y]) := by rw [h, h']

set_option maxRecDepth 20000 in
set_option maxHeartbeats 4000000 in
theorem l33Open_any (s : ByteArray) (w : World) (hs : s.size ≤ 1048576) :
    Calls Tryz.prog 51 #[.string s] w (OpenR w (readAll (bs s))) := by
  go_enter Tryz.func51, Tryz.ntmps51
  go_wp2
  go_loopw [4, 5, 6, 7, 8] (fun v i _ _ _ wr => ∃ (p k : Nat) (l : List ((Bs × Bs) × Nat)) (A : Option Addr) (c : Nat), i = .int .i64 p ∧ v = .slice A k c ∧ k ≤ 60 ∧ p ≤ s.size ∧ l.length = k ∧ wr.ownsRow w.heap.size 131 2 (.slice A k c) k (recCells (recsOf l)) ∧ ReadAt (bs s) l p ∧ Below w.heap.size w wr) (fun _ i _ _ _ _ => s.size - (intOf i).toNat)
  case atStart => exact ⟨0, 0, [], _, _, rfl, rfl, Nat.zero_le _, Nat.zero_le _, rfl, World.ownsRow_lit _ _ _ (Nat.le_refl _) (Nat.zero_le _) rfl, ReadAt.start _, below_box _ _⟩
  case round =>
    obtain ⟨p, k, l, A, c, rfl, rfl, hk, hp, hlk, hown, H, hT⟩ := hrel
    have HLK := Lib.hid hlk
    clear hlk
    have hbase := hT.size
    by_cases hps : p < s.size
    rotate_left
    · have HE := Lib.hid (H.atEnd (by have : (bs s).length = s.size := rfl; omega))
      have HP := Lib.hid H.2.1
      go_wp2
      go_ret2
      have hl : (readAll (bs s)).length = k := by rw [HE.out, HLK.out]
      exact ⟨A, c, ret_si hl.symm (by rw [HE.out, HP.out]), by rw [hl, HE.out]; exact hown, hT⟩
    · by_cases hk60 : k < 60
      rotate_left
      · have HE := Lib.hid (H.full (by rw [HLK.out]; omega))
        have HP := Lib.hid H.2.1
        go_wp2
        go_ret2
        have hl : (readAll (bs s)).length = k := by rw [HE.out, HLK.out]
        exact ⟨A, c, ret_si hl.symm (by rw [HE.out, HP.out]), by rw [hl, HE.out]; exact hown, hT⟩
      · obtain ⟨R, HR⟩ : ∃ R, Hid (s.extract p s.size = R) := ⟨_, rfl⟩
        have HRB : Hid (bs R = (bs s).drop p) := by
          show _ = _
          rw [← HR.out, bs_ext, List.take_of_length_le (by rw [List.length_drop]; exact Nat.le_refl _)]
        have hrs : R.size ≤ 1048576 := by
          have h2 := congrArg List.length HRB.out
          have h3 : (bs s).length = s.size := rfl
          have h4 : (bs R).length = R.size := rfl
          rw [List.length_drop] at h2
          omega
        have hp0 : (0 : Int) ≤ (p : Int) := by omega
        have hp1 : (p : Int) ≤ (s.size : Int) := by omega
        go_wp2_with fail
        rw [HR.out]
        refine (l1Split_own R 10 10 rfl _ (by omega)).mono ?_
        rintro e w3 ⟨B, d, rfl, hs3, hb3, hm3⟩
        have hr3 := rd_strs hm3 hs3 rfl
        obtain ⟨g3, o3, rfl, hc3⟩ := split_zero hr3
        have hT3 := below_next hT hb3 rfl
        have hown3 := own_next hown hb3
        have hsp3 := split_bound 10 (bs R)
        have HTW := Lib.hid (split_two 10 (bs R))
        obtain ⟨n3, HN3⟩ : ∃ n, Hid ((splitL 10 (bs R)).length = n) := ⟨_, rfl⟩
        obtain ⟨Q, HQQ⟩ : ∃ T, Hid (mk (cutAt 10 (bs R)).1 = T) := ⟨_, rfl⟩
        obtain ⟨zs3, HZ3⟩ : ∃ zs, Hid (strs (splitL 10 (bs R)) = zs) := ⟨_, rfl⟩
        rw [HZ3.out] at hs3
        have hs3' := hs3
        rw [HN3.out] at hsp3 HTW hs3 ⊢
        clear hs3' hm3
        rw [HQQ.out] at hc3
        have HQB : Hid ((cutAt 10 (bs R)).1 = bs Q) := by show _ = _; rw [← HQQ.out]; rfl
        have hqs : Q.size ≤ R.size := by
          have h1 := (cutAt_len 10 (bs R)).1
          have h2 := congrArg List.length HQB.out
          have h3 : (bs Q).length = Q.size := rfl
          have h4 : (bs R).length = R.size := rfl
          omega
        clear hr3 hb3 hown hT
        go_wp2_with fail
        refine (l33Read_any k Q _ hk60 (by omega)).mono ?_
        rintro e w4 ⟨x, y, ok, rfl, hdec, hb4⟩
        have HDEC := Lib.hid hdec
        have hT4 := below_next hT3 hb4 rfl
        have hown4 := own_next hown3 hb4
        have hc4 := keepc hb4 hc3
        have hs4 := own_next hs3 hb4
        clear hdec hc3 hb4 hown3 hT3 hs3
        have hbe := below_box w4 (.cells #[.string x, .string y] 131)
        have BE := Blk.new w4 131 #[.string x, .string y]
        obtain ⟨w5, hw5⟩ : ∃ w5, Hid (w5 = w4.alloc (.cells #[.string x, .string y] 131)) := ⟨_, rfl⟩
        by_cases h10 : (10 : UInt8) ∈ bs R
        rotate_left
        · have hn3 : ¬ 2 ≤ n3 := fun h => h10 (HTW.out.1 h)
          have HE := Lib.hid (H.stop (by rw [HLK.out, ← HRB.out]; exact step_no h10))
          have HP := Lib.hid H.2.1
          have hl : (readAll (bs s)).length = k := by rw [HE.out, HLK.out]
          go_wp2_with fail
          go_ret2
          exact ⟨A, c, ret_si hl.symm (by rw [HE.out, HP.out]), by rw [hl, HE.out]; exact own_next hown4 hbe, below_next hT4 hbe rfl⟩
        · have hn3 : 2 ≤ n3 := HTW.out.2 h10
          have hn3' : ¬ (n3 : Int) < 2 := by omega
          have HST : Hid (stepL l.length ((bs s).drop p) = (decL k (bs Q ++ [10])).map fun e => (e, (bs Q).length + 1)) := by
            show _ = _
            rw [HLK.out, ← HRB.out, step_at h10, HQB.out]
          have hDE := HDEC.out
          unfold DecR at hDE
          rcases hok : ok with _ | _
          · subst hok
            have HE := Lib.hid (H.stop (by
              rw [HST.out]
              rcases hd : decL k (bs Q ++ [10]) with _ | ⟨c1, r1⟩
              · rfl
              · rw [hd] at hDE; simp at hDE))
            have HP := Lib.hid H.2.1
            have hl : (readAll (bs s)).length = k := by rw [HE.out, HLK.out]
            clear hDE
            go_wp2_with fail
            all_goals (go_ret2; exact ⟨A, c, ret_si hl.symm (by rw [HE.out, HP.out]), by rw [hl, HE.out]; exact own_next hown4 hbe, below_next hT4 hbe rfl⟩)
          · subst hok
            have HS : Hid (stepL l.length ((bs s).drop p) = some ((bs x, bs y), Q.size + 1)) := by
              show _ = _
              rw [HST.out]
              rcases hd : decL k (bs Q ++ [10]) with _ | ⟨c1, r1⟩
              · rw [hd] at hDE; simp at hDE
              · rw [hd] at hDE
                simp at hDE
                obtain ⟨rfl, rfl⟩ := hDE
                rfl
            clear hDE
            have H' := H.step (by rw [HLK.out]; omega) HS.out
            have hown5 := own_next hown4 hbe
            have hT5 := below_next hT4 hbe rfl
            have c50 : (w4.alloc (.cells #[.string x, .string y] 131)).cell? ⟨w4.heap.size, 0, none⟩ = some (.string x) := by simp
            have c51 : (w4.alloc (.cells #[.string x, .string y] 131)).cell? ⟨w4.heap.size, 1, none⟩ = some (.string y) := by simp
            have hc5 := keepc hbe hc4
            have hs5 := own_next hs4 hbe
            have hb5 : w.heap.size ≤ (w4.alloc (.cells #[.string x, .string y] 131)).heap.size := hT5.size
            rw [← hw5.out] at hown5 hT5 c50 c51 hc5 hs5 hb5
            clear hbe BE
            go_wp2_with (first | (rw [← hw5.out]; clear hw5) | (at_builtin; refine app2 w5 rfl _ _ 80 131 rfl (.agg #[.string ⟨#[]⟩, .string ⟨#[]⟩]) 32 Tryz.underlying80 info_rec rfl (by decide) w.heap.size k c A (recCells (recsOf l)) rfl hown5 (.string x) (.string y) rfl rfl rfl (by omega) hb5 ?_; intro A3 c3 w6 hown6 hg6 hb6; have hT6 := hT5.trans hb6; have hc6 : w6.cell? ⟨g3, o3, none⟩ = some (.string Q) := own_cell hs5 hown5 (by decide) hg6 hc5; clear hown5 hb6 hc5 c50 c51 hs5 hs4))
            go_roundw
            case rel => exact ⟨p + (Q.size + 1), k + 1, l ++ [((bs x, bs y), Q.size + 1)], A3, c3, by go_num, rfl, by omega, H'.2.2.2, by rw [List.length_append, HLK.out]; rfl, by rw [recsOf_snoc, recCells_snoc]; exact hown6, H', hT6⟩
            case measure => simp [intOf]; omega
end Go.Proofs.YtbonebpheimbaaaGreatDoor.Lg
namespace Go.Proofs.YtbonebpheimbaaaGreatDoor.Lg
open Go.RowKit

def natCells (l : List Nat) : List Value := l.map fun (n : Nat) => Value.int .i64 (n : Int)
theorem natCells_snoc (l : List Nat) (n : Nat) : natCells (l ++ [n]) = natCells l ++ [.int .i64 n] := by simp [natCells]
theorem endsFrom_snoc : ∀ (l : List ((Bs × Bs) × Nat)) (a : Nat) (e : (Bs × Bs) × Nat), endsFrom a (l ++ [e]) = endsFrom a l ++ [a + endOf (l ++ [e])]
  | [], a, e => by simp [endsFrom, endOf]
  | x :: l, a, e => by
    show a :: endsFrom (a + x.2) (l ++ [e]) = a :: (endsFrom (a + x.2) l ++ [a + endOf (x :: (l ++ [e]))])
    rw [endsFrom_snoc l]
    simp [endOf]
    omega
theorem endsFrom_len : ∀ (l : List ((Bs × Bs) × Nat)) (a : Nat), (endsFrom a l).length = l.length + 1
  | [], a => rfl
  | x :: l, a => by show (endsFrom (a + x.2) l).length + 1 = _; rw [endsFrom_len l]; rfl
theorem endsFrom_last : ∀ (l : List ((Bs × Bs) × Nat)) (a : Nat), (endsFrom a l)[l.length]? = some (a + endOf l)
  | [], a => by simp [endsFrom, endOf]
  | x :: l, a => by
    show (endsFrom (a + x.2) l)[l.length]? = _
    rw [endsFrom_last l]
    simp [endOf]
    omega
def PRec (w : World) (l : List ((Bs × Bs) × Nat)) (e : Ending) (w' : World) : Prop :=
  ∃ A c B d, e = .returned (.tuple #[.slice A l.length c, .slice B (l.length + 1) d]) ∧ w'.ownsRow w.heap.size 131 2 (.slice A l.length c) l.length (recCells (recsOf l)) ∧ w'.ownsRow w.heap.size 3 1 (.slice B (l.length + 1) d) (l.length + 1) (natCells (endsFrom 0 l)) ∧ Below w.heap.size w w'
theorem ret_ss {A B : Option Addr} {n m c d : Nat} (h : n = m) : Ending.returned (.tuple #[.slice A n c, .slice B (n + 1) d]) = .returned (.tuple #[.slice A m c, .slice B (m + 1) d]) := by rw [h]

theorem info_int : (Tryz.prog.info? 3).map (fun i => (i.zero, i.size, i.bytes)) = some (some (.int .i64 0), 1, 8) := by kernel_rfl
/-- Does x stand in the list? -/
def hasI (x : Int) : List Int → Bool
  | [] => false
  | y :: l => y == x || hasI x l
set_option maxHeartbeats 400000 in
theorem hasNot_any (A : Option Addr) (n c : Nat) (xs : List Int) (y : Int) (w : World) (h : RdL RI w A n xs) :
    Calls Tryz.prog 65 #[.slice A n c, .int .i64 y] w fun e w' => e = .returned (.bool (!hasI y xs)) ∧ w = w' := by
  have hle := h.le
  go_enter Tryz.func65, Tryz.ntmps65
  go_wp2
  go_loop [9] (fun i => ∃ k : Nat, k ≤ n ∧ i = .int .i64 k ∧ At (hasI y) xs k) (fun i => n - (intOf i).toNat)
  case atStart => exact ⟨0, Nat.zero_le _, rfl, At.start _ _⟩
  case round =>
    obtain ⟨k, hk, rfl, H⟩ := hrel
    by_cases hlt : k < n
    · obtain ⟨b, o, v, x, rfl, hc, ⟨rfl, -⟩, hd, -⟩ := h.at hlt
      have H1 := Lib.hid hd
      clear hd
      go_wp2
      all_goals first
        | (go_ret
           exact ⟨ret_bool (by rw [← H.stop H1.out (r := true) (by rw [hasI, show (x == y) = true from (by first | assumption | exact bt2 (by assumption) | exact net (by assumption) | exact netc (by assumption) | exact eqc (by assumption))]; rfl)]; rfl), rfl⟩)
        | (go_round
           case rel => exact ⟨k + 1, by omega, by go_num, H.step H1.out (by rw [hasI, show (x == y) = false from (by first | assumption | exact bf1 (by assumption) | exact bf2 (by assumption) | exact nef (by assumption) | exact nefc (by assumption) | exact eqc (by assumption))]; rfl)⟩
           case measure => simp [intOf]; omega)
    · go_wp2
      go_ret
      exact ⟨ret_bool (by rw [← H.done (h.drop_end hlt) (r := false) rfl]; rfl), rfl⟩

def slen : Value → Nat
  | .slice _ n _ => n
  | _ => 0

set_option maxRecDepth 20000 in
set_option maxHeartbeats 4000000 in
theorem readRecords_any (s : ByteArray) (w : World) (hs : s.size ≤ 1048576) (ht : Tab w) :
    Calls Tryz.prog 64 #[.string s] w (PRec w (readAll (bs s))) := by
  go_enter Tryz.func64, Tryz.ntmps64
  go_wp2
  go_loopw [4, 5, 6, 7, 8, 9] (fun v v2 i _ _ _ wr => ∃ (p k : Nat) (l : List ((Bs × Bs) × Nat)) (A : Option Addr) (c : Nat) (B : Option Addr) (d : Nat), i = .int .i64 p ∧ v = .slice A k c ∧ v2 = .slice B (k + 1) d ∧ k ≤ 60 ∧ p ≤ s.size ∧ l.length = k ∧ wr.ownsRow w.heap.size 131 2 (.slice A k c) k (recCells (recsOf l)) ∧ wr.ownsRow w.heap.size 3 1 (.slice B (k + 1) d) (k + 1) (natCells (endsFrom 0 l)) ∧ ReadAt (bs s) l p ∧ Below w.heap.size w wr) (fun v _ _ _ _ _ _ => 60 - slen v)
  case atStart =>
    refine ⟨0, 0, [], _, _, _, _, rfl, rfl, rfl, Nat.zero_le _, Nat.zero_le _, rfl, ?_, ?_, ReadAt.start _, below_box2 _ _ _⟩
    · exact (World.ownsRow_lit w #[] 0 (Nat.le_refl _) (Nat.zero_le _) rfl).alloc _
    · have h := World.ownsRow_lit (e := 3) (base := w.heap.size) (size := 1) (w.alloc (.cells #[] 131)) #[.int .i64 ((0 : Nat) : Int)] 1 (by simp) (by decide) rfl
      rw [World.size_alloc] at h
      exact h
  case round =>
    obtain ⟨p, k, l, A, c, B, d, rfl, rfl, rfl, hk, hp, hlk, hown, hows, H, hT⟩ := hrel
    have HLK := Lib.hid hlk
    clear hlk
    have hbase := hT.size
    have htw := ht.next hT
    by_cases hk60 : k < 60
    rotate_left
    · have HE := Lib.hid (H.full (by rw [HLK.out]; omega))
      have hl : (readAll (bs s)).length = k := by rw [HE.out, HLK.out]
      go_wp2
      go_ret2
      exact ⟨A, c, B, d, ret_ss hl.symm, by rw [hl, HE.out]; exact hown, by rw [hl, HE.out]; exact hows, hT⟩
    · obtain ⟨R, HR⟩ : ∃ R, Hid (s.extract p s.size = R) := ⟨_, rfl⟩
      have HRB : Hid (bs R = (bs s).drop p) := by
        show _ = _
        rw [← HR.out, bs_ext, List.take_of_length_le (by rw [List.length_drop]; exact Nat.le_refl _)]
      have hrs : R.size = s.size - p := by
        have h2 := congrArg List.length HRB.out
        have h3 : (bs s).length = s.size := rfl
        have h4 : (bs R).length = R.size := rfl
        rw [List.length_drop] at h2
        omega
      have hp0 : (0 : Int) ≤ (p : Int) := by omega
      have hp1 : (p : Int) ≤ (s.size : Int) := by omega
      rcases indexByte_cases (bs R) 10 with ⟨h1, h2⟩ | ⟨i, h1, h2, h3, h4⟩
      · have HI := Lib.hid (show Lib.indexByte R.data.toList (Int.toNat 10).toUInt8 = -1 from h1)
        have HE := Lib.hid (H.stop (by rw [HLK.out, ← HRB.out]; exact step_no h2))
        have hl : (readAll (bs s)).length = k := by rw [HE.out, HLK.out]
        clear h1 h2
        go_wp2_with (go_at_call 107; rw [HR.out]; refine (Tryz.strings_IndexByte _ _ _).mono ?_; rintro e wr ⟨rfl, rfl⟩; rw [HI.out])
        go_ret2
        exact ⟨A, c, B, d, ret_ss hl.symm, by rw [hl, HE.out]; exact hown, by rw [hl, HE.out]; exact hows, hT⟩
      · have HI := Lib.hid (show Lib.indexByte R.data.toList (Int.toNat 10).toUInt8 = i from h1)
        have h2' : i < R.size := h2
        obtain ⟨Q, HQ⟩ : ∃ Q, Hid (s.extract p (p + i + 1) = Q) := ⟨_, rfl⟩
        have HQB : Hid (bs Q = (bs R).take (i + 1)) := by
          show _ = _
          rw [← HQ.out, bs_ext, HRB.out, show p + i + 1 - p = i + 1 by omega]
        have hqs : Q.size ≤ R.size := by
          have h5 := congrArg List.length HQB.out
          have h6 : (bs Q).length = Q.size := rfl
          have h7 : (bs R).length = R.size := rfl
          rw [List.length_take] at h5
          omega
        have HST : Hid (stepL l.length ((bs s).drop p) = (decL k (bs Q)).map fun e => (e, i + 1)) := by
          show _ = _
          rw [HLK.out, ← HRB.out, step_at (List.mem_of_getElem? h3), h4, HQB.out, List.take_add_one, h3]
          simp only [List.length_take]
          rw [Nat.min_eq_left (Nat.le_of_lt h2)]
          rfl
        have c1 : (0 : Int) ≤ (i : Int) := by omega
        have c2 : (p : Int) ≤ (p : Int) + (i : Int) + 1 := by omega
        have c3 : (p : Int) + (i : Int) + 1 ≤ (s.size : Int) := by omega
        have c4 : (0 : Int) ≤ (p : Int) + (i : Int) + 1 := by omega
        clear h1 h2 h3 h4
        go_wp2_with (go_at_call 107; rw [HR.out]; refine (Tryz.strings_IndexByte _ _ _).mono ?_; rintro e wr ⟨rfl, rfl⟩; rw [HI.out])
        rw [HQ.out]
        refine (decode_any k Q _ hk60 (by omega) htw).mono ?_
        rintro e w4 ⟨x, y, ok, rfl, hdec, hb4⟩
        have HDEC := Lib.hid hdec
        have hT4 := below_next hT hb4 rfl
        have hown4 := own_next hown hb4
        have hows4 := own_next hows hb4
        clear hdec hb4 hown hows hT htw
        have hbe := below_box w4 (.cells #[.string x, .string y] 131)
        obtain ⟨w5, hw5⟩ : ∃ w5, Hid (w5 = w4.alloc (.cells #[.string x, .string y] 131)) := ⟨_, rfl⟩
        have hDE := HDEC.out
        unfold DecR at hDE
        rcases hok : ok with _ | _
        · subst hok
          have HE := Lib.hid (H.stop (by
            rw [HST.out]
            rcases hd : decL k (bs Q) with _ | ⟨c1, r1⟩
            · rfl
            · rw [hd] at hDE; simp at hDE))
          have hl : (readAll (bs s)).length = k := by rw [HE.out, HLK.out]
          clear hDE
          go_wp2_with fail
          all_goals (go_ret2; exact ⟨A, c, B, d, ret_ss hl.symm, by rw [hl, HE.out]; exact own_next hown4 hbe, by rw [hl, HE.out]; exact own_next hows4 hbe, below_next hT4 hbe rfl⟩)
        · subst hok
          have HS : Hid (stepL l.length ((bs s).drop p) = some ((bs x, bs y), i + 1)) := by
            show _ = _
            rw [HST.out]
            rcases hd : decL k (bs Q) with _ | ⟨c1, r1⟩
            · rw [hd] at hDE; simp at hDE
            · rw [hd] at hDE
              simp at hDE
              obtain ⟨rfl, rfl⟩ := hDE
              rfl
          clear hDE
          have H' := H.step (by rw [HLK.out]; omega) HS.out
          have hown5 := own_next hown4 hbe
          have hows5 := own_next hows4 hbe
          have hT5 := below_next hT4 hbe rfl
          have c50 : (w4.alloc (.cells #[.string x, .string y] 131)).cell? ⟨w4.heap.size, 0, none⟩ = some (.string x) := by simp
          have c51 : (w4.alloc (.cells #[.string x, .string y] 131)).cell? ⟨w4.heap.size, 1, none⟩ = some (.string y) := by simp
          have hb5 : w.heap.size ≤ (w4.alloc (.cells #[.string x, .string y] 131)).heap.size := hT5.size
          rw [← hw5.out] at hown5 hows5 hT5 c50 c51 hb5
          clear hbe
          go_wp2_with (first | (rw [← hw5.out]; clear hw5) | (at_builtin; refine app2 w5 rfl _ _ 80 131 rfl (.agg #[.string ⟨#[]⟩, .string ⟨#[]⟩]) 32 Tryz.underlying80 info_rec rfl (by decide) w.heap.size k c A (recCells (recsOf l)) rfl hown5 (.string x) (.string y) rfl rfl rfl (by omega) hb5 ?_; intro A3 c3 w6 hown6 hg6 hb6; have hT6 := hT5.trans hb6; have hows6 := own_other hows5 hown5 (by decide) hg6; have hb6' := hT6.size; clear hown5 hb6 c50 c51 hows5) | (at_builtin; refine app1 w6 rfl _ _ 58 3 rfl (.int .i64 0) 8 Tryz.underlying58 info_int rfl (by decide) w.heap.size (k + 1) d B (natCells (endsFrom 0 l)) rfl hows6 (.int .i64 ((p : Int) + ((i : Int) + 1))) rfl rfl (by omega) hb6' ?_; intro A4 c4 w7 hows7 hg7 hb7; have hT7 := hT6.trans hb7; have hown7 := own_other hown6 hows6 (by decide) hg7; clear hown6 hb7 hows6))
          go_roundw
          case rel => exact ⟨p + (i + 1), k + 1, l ++ [((bs x, bs y), i + 1)], A3, c3, A4, c4, by go_num, rfl, rfl, by omega, H'.2.2.2, by rw [List.length_append, HLK.out]; rfl, by rw [recsOf_snoc, recCells_snoc]; exact hown7, by rw [endsFrom_snoc, natCells_snoc, H'.2.1, Nat.zero_add]; exact hows7, H', hT7⟩
          case measure => simp [slen]; omega
end Go.Proofs.YtbonebpheimbaaaGreatDoor.Lg
namespace Go.Proofs.YtbonebpheimbaaaGreatDoor.Lg
open Go.RowKit

@[reducible] def logV (d p : ByteArray) (n : Int) : Value := .agg #[.string d, .string p, .int .i64 n]
theorem res_row_tmp2 {P : Program} {fn : Func} {p u u2 : Tmp} {ty : TypeId} (h : fn.results = #[.cell p ty, .tmp u, .tmp u2]) (tmps : Array Value) (w : World) (g : Nat) (t : TypeId) (cs : Array Value) (fr : Nat × Nat) (d : TypeDesc) (b b2 : Value)
    (hp : tmps.getD p undef = .pointer (some ⟨g, 0, none⟩)) (hg : w.heap[g]? = some (.cells cs t fr))
    (hu : P.underlying ty = some d) (hd : (match d with | .struct _ | .array _ _ => true | _ => false) = true) (hi : (P.info? ty).map (·.size) = some cs.size) (hb : tmps.getD u undef = b) (hb2 : tmps.getD u2 undef = b2) :
    (results fn tmps).run P w = .ok (.tuple #[.agg cs, b, b2]) w := by
  have : (results fn tmps).run P w = ((asAddr (tmps.getD p undef)).run P w).andThen fun a w₁ => ((loadVar ty a).run P w₁).andThen fun v w₂ => .ok (.tuple #[v, tmps.getD u undef, tmps.getD u2 undef]) w₂ := by
    simp only [results, h]
    simp [Sem.run_bind, Result.andThen]
  rw [this, hp, hb, hb2]
  simp [asAddr, Result.andThen, run_loadVar_row w g t ty cs fr d hg hu hd hi]

set_option maxHeartbeats 1000000 in
theorem eqLog_self (d p : ByteArray) (n : Int) (w : World) :
    Calls Tryz.prog 20 #[logV d p n, logV d p n] w (Bl w (.bool true)) := by
  have hb := below_box2 w (.cells #[.string d, .string p, .int .i64 n] 40) (.cells #[.string d, .string p, .int .i64 n] 40)
  go_enter Tryz.func20, Tryz.ntmps20
  go_wp2
  go_ret
  exact ⟨rfl, hb⟩

def endA (s : ByteArray) : Nat := endOf (readAll (bs s))
def cntA (s : ByteArray) : Nat := (readAll (bs s)).length
theorem endA_le (s : ByteArray) : endA s ≤ s.size := by
  obtain ⟨-, -, h3, t, h4⟩ := readAll_split (bs s)
  have h5 := congrArg List.length h4
  rw [List.length_append, ← h3] at h5
  have : (bs s).length = s.size := rfl
  unfold endA
  omega
def recD (s : ByteArray) : ByteArray := if 30000 < s.size then ⟨#[]⟩ else s.extract 0 (endA s)
def recN (s : ByteArray) : Nat := if 30000 < s.size then 0 else cntA s
def recE (s : ByteArray) : Nat := if 30000 < s.size then 0 else endA s
def recB (s : ByteArray) : Bool := decide (¬ 30000 < s.size)
def RecE (w : World) (s : ByteArray) (e : Ending) (w' : World) : Prop := e = .returned (.tuple #[logV (recD s) ⟨#[]⟩ (recN s), .int .i64 (recE s), .bool (recB s)]) ∧ Below w.heap.size w w'

theorem ret_rec {d d' p : ByteArray} {n n' e e' : Int} {b b' : Bool} (h : d = d') (h2 : n = n') (h3 : e = e') (h4 : b = b') : Ending.returned (.tuple #[logV d p n, .int .i64 e, .bool b]) = .returned (.tuple #[logV d' p n', .int .i64 e', .bool b']) := by rw [h, h2, h3, h4]
theorem Blk.set3 {w : World} {g : Nat} {t : TypeId} {d p : ByteArray} {n : Int} (h : Blk w g t #[.string ⟨#[]⟩, .string ⟨#[]⟩, .int .i64 0]) : Blk (((w.setCell ⟨g, 0, none⟩ (.string d)).setCell ⟨g, 1, none⟩ (.string p)).setCell ⟨g, 2, none⟩ (.int .i64 n)) g t #[.string d, .string p, .int .i64 n] := by
  have h2 := ((h.set_ 0 (.string d)).set_ 1 (.string p)).set_ 2 (.int .i64 n)
  simpa using h2

theorem own_at {w : World} {base e n d k : Nat} {B : Option Addr} {xs : List Value} {v : Value} (h : w.ownsRow base e 1 (.slice B n d) n xs) (hk : k < n) (hx : xs[k]? = some v) : ∃ g, B = some ⟨g, 0, none⟩ ∧ w.cell? ⟨g, k, none⟩ = some v := by
  obtain ⟨g, cap, cur, hv, -⟩ := h.2.resolve_left (by rintro ⟨-, h0⟩; omega)
  injection hv with hv hn hc
  subst hv hc
  exact ⟨g, rfl, by rw [h.cellAt k (by omega)]; exact hx⟩

end Go.Proofs.YtbonebpheimbaaaGreatDoor.Lg
namespace Go.Proofs.YtbonebpheimbaaaGreatDoor.Lg
open Go.RowKit

set_option maxHeartbeats 400000 in
theorem toLog_any (d p : ByteArray) (n : Int) (w : World) :
    Calls Tryz.prog 16 #[logV d p n] w (Bl w (logV d p n)) := by
  go_enter Tryz.func16, Tryz.ntmps16
  go_wp2
  exact bodyPost_ret (v := logV d p n) (by simp [results, Tryz.results16, go_sem]) rfl ⟨rfl, below_box3 _ _ _ _⟩
set_option maxHeartbeats 400000 in
theorem szLog_any (d p : ByteArray) (n left : Int) (w : World) (hc : d.size ≤ maxLen) (hr : p.size ≤ maxLen) (h0 : 0 ≤ left) (h1 : left ≤ 1048576) :
    Calls Tryz.prog 13 #[logV d p n, .int .i64 left] w (Bl w (.int .i64 (recSize d p left))) := by
  unfold maxLen at hc hr
  by_cases h2 : left - d.size < 0
  · go_enter Tryz.func13, Tryz.ntmps13
    go_wp2
    go_ret
    exact ⟨ret_int (by unfold recSize; rw [if_pos h2]), below_box _ _⟩
  · by_cases h3 : left - d.size - p.size < 0
    all_goals
      go_enter Tryz.func13, Tryz.ntmps13
      go_wp2
      go_ret
      exact ⟨ret_int (by unfold recSize; rw [if_neg (by omega)]; first | rw [if_pos (by omega)] | rw [if_neg (by omega)]), below_box _ _⟩

/-! ## the two readings of 'valid' -/
def endsI (s : Bs) : List Int := (endsL s).map fun (x : Nat) => (x : Int)
theorem hasI_iff (x : Int) : ∀ l : List Int, hasI x l = true ↔ x ∈ l
  | [] => by simp [hasI]
  | y :: l => by
    rw [hasI, Bool.or_eq_true, hasI_iff x l, List.mem_cons, beq_iff_eq]
    constructor
    · rintro (h | h)
      · exact .inl h.symm
      · exact .inr h
    · rintro (h | h)
      · exact .inl h.symm
      · exact .inr h
def vP (s : ByteArray) (D : Nat) (n : Int) : Bool := decide ((endA s : Int) = s.size) && (hasI D (endsI (bs s)) && decide (n = cntA s))
def vS (s d : ByteArray) (n : Int) : Bool := decide (¬ (30000 < s.size)) && (decide (endA s = s.size) && (decide (endA d = d.size) && decide ((cntA s : Int) = n)))
theorem vP_iff {s d p : ByteArray} {n : Int} (hs : bs s = bs d ++ bs p) : vP s d.size n = true ↔ validP (bs d) (bs p) n := by
  have h1 : (bs s).length = s.size := rfl
  unfold vP validP endA cntA endsI
  rw [Bool.and_eq_true, Bool.and_eq_true, hasI_iff, ← hs]
  simp only [decide_eq_true_eq, List.mem_map]
  have h2 : (bs d).length = d.size := rfl
  rw [h1, h2]
  constructor
  · rintro ⟨h3, ⟨x, h4, h5⟩, h6⟩
    have : x = d.size := by omega
    subst this
    exact ⟨by omega, h4, h6⟩
  · rintro ⟨h3, h4, h6⟩
    exact ⟨by omega, ⟨_, h4, rfl⟩, h6⟩
theorem vS_iff {s d p : ByteArray} {n : Int} (hs : bs s = bs d ++ bs p) : vS s d n = true ↔ validS (bs d) (bs p) n := by
  have h1 : (bs s).length = s.size := rfl
  have h2 : (bs d).length = d.size := rfl
  have h3 := congrArg List.length hs
  rw [List.length_append, h1] at h3
  unfold vS validS endA cntA
  simp only [Bool.and_eq_true, decide_eq_true_eq]
  rw [← hs, ← h3, h2]
  constructor
  · rintro ⟨a, b, c, e⟩
    exact ⟨by omega, b, c, e⟩
  · rintro ⟨a, b, c, e⟩
    exact ⟨by omega, b, c, e⟩
theorem vP_eq {s d p : ByteArray} {n : Int} (hs : bs s = bs d ++ bs p) : vP s d.size n = vS s d n := by
  rw [Bool.eq_iff_iff, vP_iff hs, vS_iff hs, valid_iff]

theorem rd_ends {w : World} {base n d : Nat} {B : Option Addr} {l : List ((Bs × Bs) × Nat)} (h : w.ownsRow base 3 1 (.slice B n d) n (natCells (endsFrom 0 l))) (hn : n = l.length + 1) (hb : n ≤ 61) (hm : endOf l ≤ 1048576) : RdL RI w B n ((endsFrom 0 l).map fun (x : Nat) => (x : Int)) := by
  have hl := endsFrom_len l 0
  obtain ⟨A', c', e, hr⟩ := RdL.ofOwn (R := RI) (w := w) (xs := (endsFrom 0 l).map fun (x : Nat) => (x : Int)) (by unfold maxLen; omega) h (by rw [List.length_map]; omega) (fun k x hk => by
    rw [List.getElem?_map] at hk
    rcases hx : (endsFrom 0 l)[k]? with _ | y
    · rw [hx] at hk; simp at hk
    · rw [hx] at hk
      simp at hk
      subst hk
      refine ⟨.int .i64 y, by simp [natCells, hx], rfl, ?_⟩
      obtain ⟨j, hj, hy⟩ := endsFrom_mem.1 (List.mem_of_getElem? hx)
      have : endOf (l.take j) ≤ endOf l := by
        have h2 := congrArg (fun l => endOf l) (List.take_append_drop j l)
        have h3 : ∀ a b : List ((Bs × Bs) × Nat), endOf (a ++ b) = endOf a + endOf b := fun a b => by simp [endOf]
        simp only [h3] at h2
        omega
      omega)
  injection e with e1 e2 e3
  subst e1
  exact hr

theorem own_lower {w : World} {b b' e s n : Nat} {v : Value} {xs : List Value} (h : w.ownsRow b e s v n xs) (hb : b' ≤ b) : w.ownsRow b' e s v n xs := by
  refine ⟨h.1, ?_⟩
  rcases h.2 with h2 | ⟨g, cap, cur, hv, hg, rest⟩
  · exact .inl h2
  · exact .inr ⟨g, cap, cur, hv, Nat.le_trans hb hg, rest⟩
def RecsE (w : World) (s : ByteArray) (D : Nat) (n : Int) (e : Ending) (w' : World) : Prop :=
  ∃ A c, e = .returned (.tuple #[.slice A (cntA s) c, .bool (vP s D n)]) ∧ w'.ownsRow w.heap.size 131 2 (.slice A (cntA s) c) (cntA s) (recCells (recsOf (readAll (bs s)))) ∧ Below w.heap.size w w'
theorem ret_slb {A : Option Addr} {n c : Nat} {x y : Bool} (h' : x = y) : Ending.returned (.tuple #[.slice A n c, .bool x]) = .returned (.tuple #[.slice A n c, .bool y]) := by rw [h']

set_option maxHeartbeats 2000000 in
theorem recordsOf_any (d p : ByteArray) (n : Int) (w : World) (hs : d.size + p.size ≤ 1048576) (ht : Tab w) :
    Calls Tryz.prog 38 #[logV d p n] w (RecsE w (d ++ p) d.size n) := by
  have hT := below_box w (.cells #[.string d, .string p, .int .i64 n] 40)
  have BX := Blk.new w 40 #[.string d, .string p, .int .i64 n]
  have kc := cat d p (by omega)
  have hle := endA_le (d ++ p)
  have hsz : (d ++ p).size = d.size + p.size := ByteArray.size_append ..
  have hlast := endsFrom_last (readAll (bs (d ++ p))) 0
  have h60 := (readAll_split (bs (d ++ p))).2.1
  obtain ⟨W, HW⟩ : ∃ W, Hid (d ++ p = W) := ⟨_, rfl⟩
  rw [HW.out] at kc hle hsz hlast h60 ⊢
  obtain ⟨m, HM⟩ : ∃ m, Hid (endA W = m) := ⟨_, rfl⟩
  obtain ⟨k, HK⟩ : ∃ m, Hid (cntA W = m) := ⟨_, rfl⟩
  have HM' : Hid (endOf (readAll (bs W)) = m) := HM
  have HK' : Hid ((readAll (bs W)).length = k) := HK
  rw [HM.out] at hle
  rw [HM'.out, HK'.out, Nat.zero_add] at hlast
  rw [HK'.out] at h60
  have HL : Hid ((natCells (endsFrom 0 (readAll (bs W))))[k]? = some (.int .i64 m)) := by
    show _ = _
    rw [natCells, List.getElem?_map, hlast]
    rfl
  clear hlast
  go_enter Tryz.func38, Tryz.ntmps38
  go_wp2_with fail
  refine (readRecords_any W _ (by omega) (ht.next hT)).mono ?_
  rintro e w3 ⟨A, c, B, b, rfl, ho2, ho3, hb3⟩
  rw [HK'.out] at ho2 ho3 ⊢
  have hrd := rd_ends ho3 (by rw [HK'.out]) (by omega) (by rw [HM'.out]; omega)
  have HRd : Hid (RdL RI w3 B (k + 1) (endsI (bs W))) := hrd
  clear hrd
  obtain ⟨g, rfl, hcg⟩ := own_at ho3 (Nat.lt_succ_self k) HL.out
  have hT3 := below_next hT hb3 rfl
  replace BX := BX.next hb3
  have cN0 := BX.cell 0
  have cN1 := BX.cell 1
  have cN2 := BX.cell 2
  simp at cN0 cN1 cN2
  obtain ⟨hi, HI⟩ : ∃ b, Hid (hasI d.size (endsI (bs W)) = b) := ⟨_, rfl⟩
  have hv : vP W d.size n = (decide ((m : Int) = W.size) && (hi && decide (n = k))) := by rw [← HI.out, ← HM.out, ← HK.out]; rfl
  obtain ⟨v, HV⟩ : ∃ v, Hid (v = vP W d.size n) := ⟨_, rfl⟩
  rw [← HV.out] at hv
  replace ho2 := own_lower ho2 hT.size
  rcases hq1 : ((m : Int) == (d.size : Int) + (p.size : Int)) with _ | _
  · have hv' : false = v := by
      rw [hv, show decide ((m : Int) = W.size) = false by simp at hq1 ⊢; omega]
      rfl
    clear hv
    have HV' := Lib.hid (hv'.trans HV.out)
    clear hv'
    go_wp2_with fail
    go_ret2
    exact ⟨A, c, by rw [HK.out]; exact ret_slb HV'.out, by rw [HK.out]; exact ho2, hT3⟩
  · rcases hi with _ | _
    · have hv' : false = v := by rw [hv]; simp
      clear hv
      have HV' := Lib.hid (hv'.trans HV.out)
      clear hv'
      go_wp2_with (go_at_call 65; refine (hasNot_any _ _ _ _ _ _ HRd.out).mono ?_; rintro e wr ⟨rfl, rfl⟩; rw [HI.out])
      go_ret2
      exact ⟨A, c, by rw [HK.out]; exact ret_slb HV'.out, by rw [HK.out]; exact ho2, hT3⟩
    · have hv' : (n == (k : Int)) = v := by
        rw [hv, show decide ((m : Int) = W.size) = true by simp at hq1 ⊢; omega]
        simp only [Bool.true_and]
        rfl
      clear hv
      have HV' := Lib.hid (hv'.trans HV.out)
      clear hv'
      go_wp2_with (go_at_call 65; refine (hasNot_any _ _ _ _ _ _ HRd.out).mono ?_; rintro e wr ⟨rfl, rfl⟩; rw [HI.out])
      go_ret2
      exact ⟨A, c, by rw [HK.out]; exact ret_slb HV'.out, by rw [HK.out]; exact ho2, hT3⟩

set_option maxHeartbeats 1000000 in
theorem implValidLog_any (d p : ByteArray) (n : Int) (w : World) (hs : d.size + p.size ≤ 1048576) (ht : Tab w) :
    Calls Tryz.prog 18 #[logV d p n] w (Bl w (.bool (vS (d ++ p) d n))) := by
  have hT := below_box w (.cells #[.string d, .string p, .int .i64 n] 40)
  have HV := Lib.hid (vP_eq (n := n) (bs_app d p))
  go_enter Tryz.func18, Tryz.ntmps18
  go_wp2_with fail
  refine (recordsOf_any d p n _ hs (ht.next hT)).mono ?_
  rintro e w3 ⟨A, c, rfl, -, hb3⟩
  rw [HV.out]
  have hT3 := below_next hT hb3 rfl
  go_wp2_with fail
  go_ret
  exact ⟨rfl, hT3⟩

set_option maxHeartbeats 2000000 in
theorem l33Log_any (d p : ByteArray) (n : Int) (w : World) (hs : d.size + p.size ≤ 1048576) :
    Calls Tryz.prog 32 #[logV d p n] w (Bl w (.bool (vS (d ++ p) d n))) := by
  have hT := below_box w (.cells #[.string d, .string p, .int .i64 n] 40)
  have BX := Blk.new w 40 #[.string d, .string p, .int .i64 n]
  have kc := cat d p (by omega)
  have hle := endA_le (d ++ p)
  have hled := endA_le d
  have hsz : (d ++ p).size = d.size + p.size := ByteArray.size_append ..
  obtain ⟨W, HW⟩ : ∃ W, Hid (d ++ p = W) := ⟨_, rfl⟩
  rw [HW.out] at kc hle hsz ⊢
  by_cases hbig : 30000 < d.size + p.size
  · have hv : Hid (false = vS W d n) := by
      show _ = _
      unfold vS
      rw [show decide (¬ (30000 < W.size)) = false by simp; omega]
      rfl
    go_enter Tryz.func32, Tryz.ntmps32
    go_wp2_with fail
    go_ret
    exact ⟨ret_bool hv.out, hT⟩
  · have h60 := (readAll_split (bs W)).2.1
    obtain ⟨m, HM⟩ : ∃ m, Hid (endA W = m) := ⟨_, rfl⟩
    obtain ⟨m2, HM2⟩ : ∃ m, Hid (endA d = m) := ⟨_, rfl⟩
    obtain ⟨k, HK⟩ : ∃ m, Hid (cntA W = m) := ⟨_, rfl⟩
    obtain ⟨k2, HK2⟩ : ∃ m, Hid (cntA d = m) := ⟨_, rfl⟩
    have HM' : Hid (endOf (readAll (bs W)) = m) := HM
    have HK' : Hid ((readAll (bs W)).length = k) := HK
    have HM2' : Hid (endOf (readAll (bs d)) = m2) := HM2
    have HK2' : Hid ((readAll (bs d)).length = k2) := HK2
    rw [HM.out] at hle
    rw [HM2.out] at hled
    rw [HK'.out] at h60
    have hv : Hid (vS W d n = (decide (m = d.size + p.size) && (decide (m2 = d.size) && decide ((k : Int) = n)))) := by
      show _ = _
      unfold vS
      rw [HM.out, HM2.out, HK.out, show decide (¬ (30000 < W.size)) = true by simp; omega, hsz]
      rfl
    go_enter Tryz.func32, Tryz.ntmps32
    go_wp2_with fail
    refine (l33Open_any W _ (by omega)).mono ?_
    rintro e w3 ⟨A, c, rfl, -, hb3⟩
    rw [HM'.out, HK'.out]
    have hT3 := below_next hT hb3 rfl
    replace BX := BX.next hb3
    clear hb3
    have cN0 := BX.cell 0
    have cN1 := BX.cell 1
    have cN2 := BX.cell 2
    simp at cN0 cN1 cN2
    go_wp2_with fail
    refine (l33Open_any d _ (by omega)).mono ?_
    rintro e w4 ⟨A2, c2, rfl, -, hb4⟩
    rw [HM2'.out, HK2'.out]
    have hT4 := below_next hT3 hb4 rfl
    replace BX := BX.next hb4
    clear hb4 cN0 cN1 cN2
    have cN0 := BX.cell 0
    have cN1 := BX.cell 1
    have cN2 := BX.cell 2
    simp at cN0 cN1 cN2
    rcases hq1 : ((m : Int) == (d.size : Int) + (p.size : Int)) with _ | _
    · have hv' : Hid (false = vS W d n) := by
        show _ = _
        rw [hv.out, show decide (m = d.size + p.size) = false by simp at hq1 ⊢; omega]
        rfl
      go_wp2_with fail
      go_ret
      exact ⟨ret_bool hv'.out, hT4⟩
    · rcases hq2 : ((m2 : Int) == (d.size : Int)) with _ | _
      · have hv' : Hid (false = vS W d n) := by
          show _ = _
          rw [hv.out, show decide (m2 = d.size) = false by simp at hq2 ⊢; omega]
          simp
        go_wp2_with fail
        go_ret
        exact ⟨ret_bool hv'.out, hT4⟩
      · have hv' : Hid (((k : Int) == n) = vS W d n) := by
          show _ = _
          rw [hv.out, show decide (m2 = d.size) = true by simp at hq2 ⊢; omega, show decide (m = d.size + p.size) = true by simp at hq1 ⊢; omega]
          simp only [Bool.true_and]
          rfl
        go_wp2_with fail
        go_ret
        exact ⟨ret_bool hv'.out, hT4⟩

end Go.Proofs.YtbonebpheimbaaaGreatDoor.Lg
