
/- Walks: all orders of names, the first one by its code (the reference's). -/
import Derived.Test.YtbpdbimdefdefaaRen
namespace Go.Proofs.Ytbpdbimdefdefaa
open Go.RowKit

theorem ords_len {n : Nat} : ∀ (r : Nat) (s : List Int), (ords n r s).length ≤ n ^ r
  | 0, s => by simp [ords]
  | r + 1, s => by
    have key : ∀ k, (ordsTo n r s k).length ≤ k * n ^ r := by
      intro k
      induction k with
      | zero => simp [ordsTo]
      | succ k ih =>
        rw [ordsTo_succ, List.length_append, Nat.succ_mul]
        have h1 := ords_len (n := n) r (s ++ [(k : Int)])
        split
        · simp; omega
        · omega
    have := key n
    rw [Nat.pow_succ, Nat.mul_comm]
    exact this
theorem ordsTo_len {n r : Nat} {s : List Int} : ∀ k, (ordsTo n r s k).length ≤ k * n ^ r
  | 0 => by simp [ordsTo]
  | k + 1 => by
    rw [ordsTo_succ, List.length_append, Nat.succ_mul]
    have h1 := ords_len (n := n) r (s ++ [(k : Int)])
    have h2 := ordsTo_len (n := n) (r := r) (s := s) k
    split
    · simp; omega
    · omega
theorem ordsTo_all (n r : Nat) (s : List Int) : ordsTo n r s n = ords n (r + 1) s := rfl
theorem pow5 {n r : Nat} (hn : n ≤ 5) (hr : r ≤ 5) : n ^ r ≤ 3125 := by
  have h1 : n ^ r ≤ 5 ^ r := Nat.pow_le_pow_left hn r
  have h2 : 5 ^ r ≤ 5 ^ 5 := Nat.pow_le_pow_right (by decide) hr
  exact Nat.le_trans h1 h2

/-- A slice's header. -/
abbrev SlT : Type := Option Addr × Nat × Nat
def slV (t : SlT) : Value := .slice t.1 t.2.1 t.2.2
def RSl (_ : World) (v : Value) (t : SlT) : Prop := v = slV t
theorem stab_RSl : Stab RSl := fun _ _ _ _ _ h => h
theorem rdl_block {w w' : World} {A : Option Addr} {n : Nat} {xs : List Int} (h : RdL RI w A n xs) (hs : ∀ p, A = some p → w'.heap[p.block]? = w.heap[p.block]?) : RdL RI w' A n xs :=
  ⟨h.1, h.2.1, fun k x hk => by
    obtain ⟨b, o, v, e, hc, hv⟩ := h.2.2 k x hk
    exact ⟨b, o, v, e, (World.cell?_of_block (w := w) (w' := w') (a := ⟨b, o + k, none⟩) (hs ⟨b, o, none⟩ e)).trans hc, hv⟩⟩
/-- The rows read so, each in a block of ints. -/
def Rws (w : World) (ts : List SlT) (xss : List (List Int)) : Prop :=
  ts.length = xss.length ∧ ∀ (k : Nat) (t : SlT) (xs : List Int), ts[k]? = some t → xss[k]? = some xs → RdL RI w t.1 t.2.1 xs ∧ ∀ p, t.1 = some p → ∃ cur fr, w.heap[p.block]? = some (.cells cur 3 fr)
/-- The call hands back a slice of slices of its own. -/
def NmE (w : World) (xss : List (List Int)) (e : Ending) (w' : World) : Prop := ∃ A c ts, e = .returned (.slice A xss.length c) ∧ w'.ownsRow w.heap.size 75 1 (.slice A xss.length c) xss.length (ts.map slV) ∧ Rws w' ts xss ∧ Below w.heap.size w w'
theorem Rws.nil (w : World) : Rws w [] [] := ⟨rfl, fun k t xs h => by simp at h⟩
theorem Rws.same {w w' : World} {ts : List SlT} {xss : List (List Int)} (h : Rws w ts xss) (hs : ∀ (b : Nat) (cur : Array Value) (fr : Nat × Nat), w.heap[b]? = some (.cells cur 3 fr) → w'.heap[b]? = w.heap[b]?) : Rws w' ts xss :=
  ⟨h.1, fun k t xs h1 h2 => ⟨rdl_block (h.2 k t xs h1 h2).1 fun p e => by
    obtain ⟨cur, fr, hc⟩ := (h.2 k t xs h1 h2).2 p e
    exact hs _ _ _ hc, fun p e => by
    obtain ⟨cur, fr, hc⟩ := (h.2 k t xs h1 h2).2 p e
    exact ⟨cur, fr, (hs _ _ _ hc).trans hc⟩⟩⟩
theorem Rws.next {w w' : World} {ts : List SlT} {xss : List (List Int)} (h : Rws w ts xss) (hb : Below w.heap.size w w') : Rws w' ts xss :=
  h.same fun b _ _ hc => hb.block b (Array.getElem?_eq_some_iff.1 hc).1
theorem Rws.grown {w w' : World} {ts : List SlT} {xss : List (List Int)} {base size n : Nat} {e : TypeId} {v : Value} {vs : List Value} (h : Rws w ts xss) (ho : w.ownsRow base e size v n vs) (hne : e ≠ 3) (hg : w.grownBy w' v.ownBlock) : Rws w' ts xss :=
  h.same fun b cur fr hc => hg.block b (Array.getElem?_eq_some_iff.1 hc).1 fun eb => by
    obtain ⟨cur2, fr2, hc2⟩ := row_blk ho (mem_obl.2 eb.symm)
    rw [hc] at hc2
    injection hc2 with hc2
    injection hc2 with _ h5
    exact hne h5.symm
theorem Rws.app {w : World} {ts us : List SlT} {xss yss : List (List Int)} (h : Rws w ts xss) (h' : Rws w us yss) : Rws w (ts ++ us) (xss ++ yss) := by
  refine ⟨by rw [List.length_append, List.length_append, h.1, h'.1], fun k t xs h1 h2 => ?_⟩
  by_cases hk : k < ts.length
  · rw [List.getElem?_append_left hk] at h1
    rw [List.getElem?_append_left (by rw [← h.1]; exact hk)] at h2
    exact h.2 k t xs h1 h2
  · rw [List.getElem?_append_right (by omega)] at h1
    rw [List.getElem?_append_right (by rw [← h.1]; omega), ← h.1] at h2
    exact h'.2 _ t xs h1 h2
theorem Rws.one {w : World} {base n : Nat} {A : Option Addr} {c : Nat} {xs : List Int} (ho : w.ownsRow base 3 1 (.slice A n c) n (ints xs)) (hx : ∀ x ∈ xs, InR x) : Rws w [(A, n, c)] [xs] := by
  refine ⟨rfl, fun k t ys h1 h2 => ?_⟩
  rcases k with _ | k
  · simp at h1 h2
    subst h1
    subst h2
    refine ⟨rd_of_own (R := RI) ho (RI_ints hx), fun p e => ?_⟩
    have e' : A = some p := e
    subst e'
    exact row_blk ho (mem_obl.2 rfl)
  · simp at h1
theorem raw_rd {w : World} {base : Nat} {A : Option Addr} {n c : Nat} {ts : List SlT} (h : w.ownsRow base 75 1 (.slice A n c) n (ts.map slV)) : RdL RSl w A n ts := by
  have hl : ts.length = n := by have := h.1; simpa using this
  refine ⟨hl, own_len_le h, fun k t hk => ?_⟩
  have hkn := (List.getElem?_eq_some_iff.1 hk).1
  rcases h.2 with ⟨_, h0⟩ | ⟨g, cap, cur, e, -⟩
  · omega
  · injection e with e
    subst e
    refine ⟨g, 0, slV t, rfl, ?_, rfl⟩
    rw [Nat.zero_add, h.cellAt k (by omega), List.getElem?_map, hk]
    rfl
theorem rws_rd {w : World} {base : Nat} {A : Option Addr} {n c : Nat} {ts : List SlT} {xss : List (List Int)} (h : w.ownsRow base 75 1 (.slice A n c) n (ts.map slV)) (hr : Rws w ts xss) : RdL (RV RI) w A n xss := by
  have hr0 := raw_rd h
  refine ⟨by rw [← hr.1]; exact hr0.1, hr0.2.1, fun k xs hk => ?_⟩
  have hkl := (List.getElem?_eq_some_iff.1 hk).1
  have ht : ts[k]? = some (ts[k]'(by rw [hr.1]; exact hkl)) := List.getElem?_eq_getElem _
  obtain ⟨b, o, v, e, hc, hv⟩ := hr0.2.2 k _ ht
  exact ⟨b, o, v, e, hc, _, _, _, hv, (hr.2 k _ xs ht hk).1⟩
theorem NmE.rd {w w' : World} {xss : List (List Int)} {e : Ending} (h : NmE w xss e w') : ∃ A c, e = .returned (.slice A xss.length c) ∧ RdL (RV RI) w' A xss.length xss ∧ Below w.heap.size w w' := by
  obtain ⟨A, c, ts, e, ho, hr, hb⟩ := h
  exact ⟨A, c, e, rws_rd ho hr, hb⟩

set_option maxRecDepth 20000 in
set_option maxHeartbeats 4000000 in
theorem l31Names_any (n : Nat) (hn : n ≤ 5) : ∀ (r : Nat) (A : Option Addr) (m c : Nat) (s : List Int) (w : World), RdL RI w A m s → m + r = n → Calls Try.prog 142 #[.int .i64 n, .slice A m c] w (NmE w (ords n r s))
  | 0, A, m, c, s, w, h, hm => by
    obtain rfl : m = n := by omega
    have HB := Lib.hid h.bounds
    have HO : Hid (ords m 0 s = [s]) := rfl
    go_enter Try.func142, Try.ntmps142
    go_wp2_with fail
    refine (l1Own_any _ _ _ _ _ h (by omega)).mono ?_
    rintro e w2 ⟨A2, c2, rfl, ho, hb⟩
    have hR := (Rws.one ho HB.out).next (below_box w2 (.cells #[.slice A2 m c2] 75))
    have hl : (w2.alloc (.cells #[.slice A2 m c2] 75)).ownsRow w.heap.size 75 1 (.slice (some ⟨w2.heap.size, 0, none⟩) 1 1) 1 [.slice A2 m c2] := World.ownsRow_lit w2 #[.slice A2 m c2] 1 hb.size (by decide) rfl
    have HLL := Lib.hid hl
    have HRR := Lib.hid hR
    clear hl hR ho
    go_wp2_with fail
    go_ret
    rw [HO.out]
    exact ⟨_, _, [(A2, m, c2)], rfl, HLL.out, HRR.out, below_next hb (below_box _ _) rfl⟩
  | r + 1, A, m, c, s, w, h, hm => by
    have ih := l31Names_any n hn r
    have hr5 : r ≤ 5 := by omega
    have hp5 := pow5 hn hr5
    have HB := Lib.hid h.bounds
    have hle := h.le
    have hbe : ((m : Int) == (n : Int)) = false := by rw [beq_eq_false_iff_ne]; omega
    go_enter Try.func142, Try.ntmps142
    go_wp2_with fail
    go_loopw [5, 6] (fun v i wr => ∃ (k : Nat) (A' : Option Addr) (c' : Nat) (ts : List SlT), k ≤ n ∧ i = .int .i64 k ∧ v = .slice A' (ordsTo n r s k).length c' ∧ wr.ownsRow w.heap.size 75 1 (.slice A' (ordsTo n r s k).length c') (ordsTo n r s k).length (ts.map slV) ∧ Rws wr ts (ordsTo n r s k) ∧ Below w.heap.size w wr) (fun _ i _ => n - (intOf i).toNat)
    case atStart => exact ⟨0, _, _, [], Nat.zero_le _, rfl, rfl, World.ownsRow_lit _ _ _ (Nat.le_refl _) (Nat.zero_le _) rfl, Rws.nil _, below_box _ _⟩
    case round =>
      obtain ⟨k, A', c', ts, hk, rfl, rfl, hown, hR, hT⟩ := hrel
      have h1 := h.next stab_RI hT
      have hlen := ordsTo_len (n := n) (r := r) (s := s) k
      have hlen2 : k * n ^ r ≤ 5 * 3125 := Nat.mul_le_mul (by omega) hp5
      by_cases hlt : k < n
      · have hk0 : (0 : Int) ≤ (k : Int) := by omega
        have hk1 : (k : Int) < (n : Int) := by omega
        obtain ⟨L, HL⟩ : ∃ L, Hid (ordsTo n r s k = L) := ⟨_, rfl⟩
        rw [HL.out] at hown hR hlen ⊢
        have HS : Hid (ordsTo n r s (k + 1) = L ++ if hasI k s then [] else ords n r (s ++ [(k : Int)])) := by show _ = _; rw [ordsTo_succ, HL.out]
        rcases hh : hasI (k : Int) s with _ | _
        · have HH := Lib.hid hh
          have HS2 : Hid (ordsTo n r s (k + 1) = L ++ ords n r (s ++ [(k : Int)])) := by show _ = _; rw [HS.out, hh]; simp
          clear hh
          go_wp2_with (go_at_call 86; refine (l1Has_any _ _ _ _ _ _ h1).mono ?_; rintro e w' ⟨rfl, rfl⟩; rw [HH.out])
          refine (l1Own_any _ _ _ _ _ h1 (by omega)).mono ?_
          rintro e w2 ⟨A2, c2, rfl, ho2, hb2⟩
          have hT2 := below_next hT hb2 rfl
          have hsz2 := hb2.size
          have HO2 := Lib.hid ho2
          go_wp2_with (at_builtin; refine app1 w2 rfl _ _ 75 3 rfl (.int .i64 0) 8 Try.underlying75 info_int rfl (by decide) wr.heap.size m c2 A2 (ints s) rfl HO2.out (.int .i64 k) rfl rfl (by omega) hsz2 ?_; intro A3 c3 w3 hown3 hg3 hb3)
          have hT3 := below_next hT (hb2.trans hb3) rfl
          have hR3 := hR.next (hb2.trans hb3)
          have hown4 := own_next hown (hb2.trans hb3)
          have hlo3 := hT3.size
          have R3 : RdL RI w3 A3 (m + 1) (s ++ [(k : Int)]) := by
            rw [← ints_snoc] at hown3
            exact rd_of_own (R := RI) hown3 (RI_ints fun v hv => by
              rw [List.mem_append] at hv
              rcases hv with hv | hv
              · exact HB.out v hv
              · rw [List.mem_singleton] at hv
                omega)
          clear hown3 hg3
          go_wp2_with fail
          refine (ih _ _ _ _ _ R3 (by omega)).mono ?_
          rintro e w5 ⟨A5, c5, us, rfl, ho5, hR5, hb5⟩
          obtain ⟨Y, HY⟩ : ∃ Y, Hid (ords n r (s ++ [(k : Int)]) = Y) := ⟨_, rfl⟩
          have hYl : Y.length ≤ 3125 := by rw [← HY.out]; exact Nat.le_trans (ords_len r _) hp5
          rw [HY.out] at ho5 hR5 ⊢
          have hT5 := below_next hT3 hb5 rfl
          have hR6 := hR3.next hb5
          have hown6 := own_next hown4 hb5
          have hlo5 := hT5.size
          have HO6 := Lib.hid hown6
          have hrw := raw_rd ho5
          go_wp2_with (at_builtin; refine appAny (R := RSl) _ rfl _ _ 45 75 rfl (.slice none 0 0) 24 Try.underlying45 info_ints rfl (by decide) w.heap.size L.length c' A' (ts.map slV) rfl HO6.out A5 Y.length c5 us slV (fun _ => rfl) rfl hrw (fun _ _ _ hr => hr) (by omega) hlo5 ?_; intro A7 c7 w7 hown7 hg7 hb7)
          have hR7 : Rws w7 (ts ++ us) (L ++ Y) := (hR6.app hR5).grown HO6.out (by decide) hg7
          go_roundw
          case rel => exact ⟨k + 1, A7, c7, ts ++ us, by omega, by go_num, by rw [HS2.out, HY.out, List.length_append], by rw [HS2.out, HY.out, List.length_append, List.map_append]; exact hown7, by rw [HS2.out, HY.out]; exact hR7, hT5.trans hb7⟩
          case measure => simp [intOf]; omega
        · have HH := Lib.hid hh
          have HS2 : Hid (ordsTo n r s (k + 1) = L) := by show _ = _; rw [HS.out, hh]; simp
          clear hh
          go_wp2_with (go_at_call 86; refine (l1Has_any _ _ _ _ _ _ h1).mono ?_; rintro e w' ⟨rfl, rfl⟩; rw [HH.out])
          go_roundw
          case rel => exact ⟨k + 1, A', c', ts, by omega, by go_num, by rw [HS2.out], by rw [HS2.out]; exact hown, by rw [HS2.out]; exact hR, hT⟩
          case measure => simp [intOf]; omega
      · obtain rfl : k = n := by omega
        have hlt' : ¬ (k : Int) < (k : Int) := by omega
        go_wp2_with fail
        go_ret
        exact ⟨A', c', ts, rfl, hown, hR, hT⟩
end Go.Proofs.Ytbpdbimdefdefaa
