
/- Walks: reading all records of a text, in the program (readRecords, recordsOf). -/
import Derived.Test.YteogfjddkaodkaaDoorOpenL
namespace Go.Proofs.YteogfjddkaodkaaDoor
open Go.RowKit

def natCells (l : List Nat) : List Value := l.map fun (n : Nat) => Value.int .i64 (n : Int)
theorem natCells_snoc (l : List Nat) (n : Nat) : natCells (l ++ [n]) = natCells l ++ [.int .i64 n] := by simp [natCells]
theorem endsFrom_snoc : ∀ (l : List ((Bs × Bs) × Nat)) (a : Nat) (e : (Bs × Bs) × Nat), endsFrom a (l ++ [e]) = endsFrom a l ++ [a + endOf (l ++ [e])]
  | [], a, e => by simp [endsFrom, endOf]
  | x :: l, a, e => by
    show a :: endsFrom (a + x.2) (l ++ [e]) = a :: (endsFrom (a + x.2) l ++ [a + endOf (x :: (l ++ [e]))])
    rw [endsFrom_snoc l]
    simp [endOf]
    omega
theorem endsFrom_len : ∀ (l : List ((Bs × Bs) × Nat)) (a : Nat), (endsFrom a l).length = l.length + 1
  | [], a => rfl
  | x :: l, a => by show (endsFrom (a + x.2) l).length + 1 = _; rw [endsFrom_len l]; rfl
theorem endsFrom_last : ∀ (l : List ((Bs × Bs) × Nat)) (a : Nat), (endsFrom a l)[l.length]? = some (a + endOf l)
  | [], a => by simp [endsFrom, endOf]
  | x :: l, a => by
    show (endsFrom (a + x.2) l)[l.length]? = _
    rw [endsFrom_last l]
    simp [endOf]
    omega
def PRec (w : World) (l : List ((Bs × Bs) × Nat)) (e : Ending) (w' : World) : Prop :=
  ∃ A c B d, e = .returned (.tuple #[.slice A l.length c, .slice B (l.length + 1) d]) ∧ w'.ownsRow w.heap.size 27 2 (.slice A l.length c) l.length (recCells (recsOf l)) ∧ w'.ownsRow w.heap.size 3 1 (.slice B (l.length + 1) d) (l.length + 1) (natCells (endsFrom 0 l)) ∧ Below w.heap.size w w'
theorem ret_ss {A B : Option Addr} {n m c d : Nat} (h : n = m) : Ending.returned (.tuple #[.slice A n c, .slice B (n + 1) d]) = .returned (.tuple #[.slice A m c, .slice B (m + 1) d]) := by rw [h]

theorem info_int : (Tryd.prog.info? 3).map (fun i => (i.zero, i.size, i.bytes)) = some (some (.int .i64 0), 1, 8) := by kernel_rfl
/-- Does x stand in the list? -/
def hasI (x : Int) : List Int → Bool
  | [] => false
  | y :: l => y == x || hasI x l
set_option maxHeartbeats 400000 in
theorem hasNot_any (A : Option Addr) (n c : Nat) (xs : List Int) (y : Int) (w : World) (h : RdL RI w A n xs) :
    Calls Tryd.prog 73 #[.slice A n c, .int .i64 y] w fun e w' => e = .returned (.bool (!hasI y xs)) ∧ w = w' := by
  have hle := h.le
  go_enter Tryd.func73, Tryd.ntmps73
  go_wp2
  go_loop [9] (fun i => ∃ k : Nat, k ≤ n ∧ i = .int .i64 k ∧ At (hasI y) xs k) (fun i => n - (intOf i).toNat)
  case atStart => exact ⟨0, Nat.zero_le _, rfl, At.start _ _⟩
  case round =>
    obtain ⟨k, hk, rfl, H⟩ := hrel
    by_cases hlt : k < n
    · obtain ⟨b, o, v, x, rfl, hc, ⟨rfl, -⟩, hd, -⟩ := h.at hlt
      have H1 := Lib.hid hd
      clear hd
      go_wp2
      all_goals first
        | (go_ret
           exact ⟨ret_bool (by rw [← H.stop H1.out (r := true) (by rw [hasI, show (x == y) = true from (by first | assumption | exact bt2 (by assumption) | exact net (by assumption) | exact netc (by assumption) | exact eqc (by assumption))]; rfl)]; rfl), rfl⟩)
        | (go_round
           case rel => exact ⟨k + 1, by omega, by go_num, H.step H1.out (by rw [hasI, show (x == y) = false from (by first | assumption | exact bf1 (by assumption) | exact bf2 (by assumption) | exact nef (by assumption) | exact nefc (by assumption) | exact eqc (by assumption))]; rfl)⟩
           case measure => simp [intOf]; omega)
    · go_wp2
      go_ret
      exact ⟨ret_bool (by rw [← H.done (h.drop_end hlt) (r := false) rfl]; rfl), rfl⟩

def slen : Value → Nat
  | .slice _ n _ => n
  | _ => 0

set_option maxRecDepth 20000 in
set_option maxHeartbeats 4000000 in
theorem readRecords_any (s : ByteArray) (w : World) (hs : s.size ≤ 1048576) (ht : Tab w) :
    Calls Tryd.prog 48 #[.string s] w (PRec w (readAll (bs s))) := by
  go_enter Tryd.func48, Tryd.ntmps48
  go_wp2
  go_loopw [4, 5, 6, 7, 8, 9] (fun v v2 i _ _ _ wr => ∃ (p k : Nat) (l : List ((Bs × Bs) × Nat)) (A : Option Addr) (c : Nat) (B : Option Addr) (d : Nat), i = .int .i64 p ∧ v = .slice A k c ∧ v2 = .slice B (k + 1) d ∧ k ≤ 60 ∧ p ≤ s.size ∧ l.length = k ∧ wr.ownsRow w.heap.size 27 2 (.slice A k c) k (recCells (recsOf l)) ∧ wr.ownsRow w.heap.size 3 1 (.slice B (k + 1) d) (k + 1) (natCells (endsFrom 0 l)) ∧ ReadAt (bs s) l p ∧ Below w.heap.size w wr) (fun v _ _ _ _ _ _ => 60 - slen v)
  case atStart =>
    refine ⟨0, 0, [], _, _, _, _, rfl, rfl, rfl, Nat.zero_le _, Nat.zero_le _, rfl, ?_, ?_, ReadAt.start _, below_box2 _ _ _⟩
    · exact (World.ownsRow_lit w #[] 0 (Nat.le_refl _) (Nat.zero_le _) rfl).alloc _
    · have h := World.ownsRow_lit (e := 3) (base := w.heap.size) (size := 1) (w.alloc (.cells #[] 27)) #[.int .i64 ((0 : Nat) : Int)] 1 (by simp) (by decide) rfl
      rw [World.size_alloc] at h
      exact h
  case round =>
    obtain ⟨p, k, l, A, c, B, d, rfl, rfl, rfl, hk, hp, hlk, hown, hows, H, hT⟩ := hrel
    have HLK := Lib.hid hlk
    clear hlk
    have hbase := hT.size
    have htw := ht.next hT
    by_cases hk60 : k < 60
    rotate_left
    · have HE := Lib.hid (H.full (by rw [HLK.out]; omega))
      have hl : (readAll (bs s)).length = k := by rw [HE.out, HLK.out]
      go_wp2
      go_ret2
      exact ⟨A, c, B, d, ret_ss hl.symm, by rw [hl, HE.out]; exact hown, by rw [hl, HE.out]; exact hows, hT⟩
    · obtain ⟨R, HR⟩ : ∃ R, Hid (s.extract p s.size = R) := ⟨_, rfl⟩
      have HRB : Hid (bs R = (bs s).drop p) := by
        show _ = _
        rw [← HR.out, bs_ext, List.take_of_length_le (by rw [List.length_drop]; exact Nat.le_refl _)]
      have hrs : R.size = s.size - p := by
        have h2 := congrArg List.length HRB.out
        have h3 : (bs s).length = s.size := rfl
        have h4 : (bs R).length = R.size := rfl
        rw [List.length_drop] at h2
        omega
      have hp0 : (0 : Int) ≤ (p : Int) := by omega
      have hp1 : (p : Int) ≤ (s.size : Int) := by omega
      rcases indexByte_cases (bs R) 10 with ⟨h1, h2⟩ | ⟨i, h1, h2, h3, h4⟩
      · have HI := Lib.hid (show Lib.indexByte R.data.toList (Int.toNat 10).toUInt8 = -1 from h1)
        have HE := Lib.hid (H.stop (by rw [HLK.out, ← HRB.out]; exact step_no h2))
        have hl : (readAll (bs s)).length = k := by rw [HE.out, HLK.out]
        clear h1 h2
        go_wp2_with (go_at_call 71; rw [HR.out]; refine (Tryd.strings_IndexByte _ _ _).mono ?_; rintro e wr ⟨rfl, rfl⟩; rw [HI.out])
        go_ret2
        exact ⟨A, c, B, d, ret_ss hl.symm, by rw [hl, HE.out]; exact hown, by rw [hl, HE.out]; exact hows, hT⟩
      · have HI := Lib.hid (show Lib.indexByte R.data.toList (Int.toNat 10).toUInt8 = i from h1)
        have h2' : i < R.size := h2
        obtain ⟨Q, HQ⟩ : ∃ Q, Hid (s.extract p (p + i + 1) = Q) := ⟨_, rfl⟩
        have HQB : Hid (bs Q = (bs R).take (i + 1)) := by
          show _ = _
          rw [← HQ.out, bs_ext, HRB.out, show p + i + 1 - p = i + 1 by omega]
        have hqs : Q.size ≤ R.size := by
          have h5 := congrArg List.length HQB.out
          have h6 : (bs Q).length = Q.size := rfl
          have h7 : (bs R).length = R.size := rfl
          rw [List.length_take] at h5
          omega
        have HST : Hid (stepL l.length ((bs s).drop p) = (decL k (bs Q)).map fun e => (e, i + 1)) := by
          show _ = _
          rw [HLK.out, ← HRB.out, step_at (List.mem_of_getElem? h3), h4, HQB.out, List.take_add_one, h3]
          simp only [List.length_take]
          rw [Nat.min_eq_left (Nat.le_of_lt h2)]
          rfl
        have c1 : (0 : Int) ≤ (i : Int) := by omega
        have c2 : (p : Int) ≤ (p : Int) + (i : Int) + 1 := by omega
        have c3 : (p : Int) + (i : Int) + 1 ≤ (s.size : Int) := by omega
        have c4 : (0 : Int) ≤ (p : Int) + (i : Int) + 1 := by omega
        clear h1 h2 h3 h4
        go_wp2_with (go_at_call 71; rw [HR.out]; refine (Tryd.strings_IndexByte _ _ _).mono ?_; rintro e wr ⟨rfl, rfl⟩; rw [HI.out])
        rw [HQ.out]
        refine (decode_any k Q _ hk60 (by omega) htw).mono ?_
        rintro e w4 ⟨x, y, ok, rfl, hdec, hb4⟩
        have HDEC := Lib.hid hdec
        have hT4 := below_next hT hb4 rfl
        have hown4 := own_next hown hb4
        have hows4 := own_next hows hb4
        clear hdec hb4 hown hows hT htw
        have hbe := below_box w4 (.cells #[.string x, .string y] 27)
        obtain ⟨w5, hw5⟩ : ∃ w5, Hid (w5 = w4.alloc (.cells #[.string x, .string y] 27)) := ⟨_, rfl⟩
        have hDE := HDEC.out
        unfold DecR at hDE
        rcases hok : ok with _ | _
        · subst hok
          have HE := Lib.hid (H.stop (by
            rw [HST.out]
            rcases hd : decL k (bs Q) with _ | ⟨c1, r1⟩
            · rfl
            · rw [hd] at hDE; simp at hDE))
          have hl : (readAll (bs s)).length = k := by rw [HE.out, HLK.out]
          clear hDE
          go_wp2_with fail
          all_goals (go_ret2; exact ⟨A, c, B, d, ret_ss hl.symm, by rw [hl, HE.out]; exact own_next hown4 hbe, by rw [hl, HE.out]; exact own_next hows4 hbe, below_next hT4 hbe rfl⟩)
        · subst hok
          have HS : Hid (stepL l.length ((bs s).drop p) = some ((bs x, bs y), i + 1)) := by
            show _ = _
            rw [HST.out]
            rcases hd : decL k (bs Q) with _ | ⟨c1, r1⟩
            · rw [hd] at hDE; simp at hDE
            · rw [hd] at hDE
              simp at hDE
              obtain ⟨rfl, rfl⟩ := hDE
              rfl
          clear hDE
          have H' := H.step (by rw [HLK.out]; omega) HS.out
          have hown5 := own_next hown4 hbe
          have hows5 := own_next hows4 hbe
          have hT5 := below_next hT4 hbe rfl
          have c50 : (w4.alloc (.cells #[.string x, .string y] 27)).cell? ⟨w4.heap.size, 0, none⟩ = some (.string x) := by simp
          have c51 : (w4.alloc (.cells #[.string x, .string y] 27)).cell? ⟨w4.heap.size, 1, none⟩ = some (.string y) := by simp
          have hb5 : w.heap.size ≤ (w4.alloc (.cells #[.string x, .string y] 27)).heap.size := hT5.size
          rw [← hw5.out] at hown5 hows5 hT5 c50 c51 hb5
          clear hbe
          go_wp2_with (first | (rw [← hw5.out]; clear hw5) | (at_builtin; refine app2 w5 rfl _ _ 48 27 rfl (.agg #[.string ⟨#[]⟩, .string ⟨#[]⟩]) 32 Tryd.underlying48 info_rec rfl (by decide) w.heap.size k c A (recCells (recsOf l)) rfl hown5 (.string x) (.string y) rfl rfl rfl (by omega) hb5 ?_; intro A3 c3 w6 hown6 hg6 hb6; have hT6 := hT5.trans hb6; have hows6 := own_other hows5 hown5 (by decide) hg6; have hb6' := hT6.size; clear hown5 hb6 c50 c51 hows5) | (at_builtin; refine app1 w6 rfl _ _ 68 3 rfl (.int .i64 0) 8 Tryd.underlying68 info_int rfl (by decide) w.heap.size (k + 1) d B (natCells (endsFrom 0 l)) rfl hows6 (.int .i64 ((p : Int) + ((i : Int) + 1))) rfl rfl (by omega) hb6' ?_; intro A4 c4 w7 hows7 hg7 hb7; have hT7 := hT6.trans hb7; have hown7 := own_other hown6 hows6 (by decide) hg7; clear hown6 hb7 hows6))
          go_roundw
          case rel => exact ⟨p + (i + 1), k + 1, l ++ [((bs x, bs y), i + 1)], A3, c3, A4, c4, by go_num, rfl, rfl, by omega, H'.2.2.2, by rw [List.length_append, HLK.out]; rfl, by rw [recsOf_snoc, recCells_snoc]; exact hown7, by rw [endsFrom_snoc, natCells_snoc, H'.2.1, Nat.zero_add]; exact hows7, H', hT7⟩
          case measure => simp [slen]; omega
end Go.Proofs.YteogfjddkaodkaaDoor
