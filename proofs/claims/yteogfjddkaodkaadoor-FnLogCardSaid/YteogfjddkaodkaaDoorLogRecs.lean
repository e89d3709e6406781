
/- Walks: LogRecords, in the program and in the reference; equality of lists of records. -/
import Derived.Test.YteogfjddkaodkaaDoorMarkR
namespace Go.Proofs.YteogfjddkaodkaaDoor
open Go.RowKit

set_option maxHeartbeats 1000000 in
theorem eqRec_self (c r : ByteArray) (w : World) :
    Calls Tryd.prog 51 #[.agg #[.string c, .string r], .agg #[.string c, .string r]] w (Bl w (.bool true)) := by
  have hb := below_box2 w (.cells #[.string c, .string r] 27) (.cells #[.string c, .string r] 27)
  go_enter Tryd.func51, Tryd.ntmps51
  go_wp2
  go_ret
  exact ⟨rfl, hb⟩
theorem recCells_get : ∀ (es : List (Bs × Bs)) (j : Nat) (c r : Bs), es[j]? = some (c, r) → (recCells es)[j * 2]? = some (.string (mk c)) ∧ (recCells es)[j * 2 + 1]? = some (.string (mk r))
  | [], j, c, r, h => by simp at h
  | (a, b) :: es, 0, c, r, h => by
    simp at h
    obtain ⟨rfl, rfl⟩ := h
    simp [recCells]
  | (a, b) :: es, j + 1, c, r, h => by
    have h2 := recCells_get es j c r (by simpa using h)
    have e : recCells ((a, b) :: es) = .string (mk a) :: .string (mk b) :: recCells es := by simp [recCells]
    rw [e, show (j + 1) * 2 = j * 2 + 1 + 1 by omega]
    simpa using h2
/-- A row of records, as read. -/
def R2 (w : World) (A : Option Addr) (n : Nat) (es : List (Bs × Bs)) : Prop := es.length = n ∧ (0 < n → ∃ g, A = some ⟨g, 0, none⟩ ∧ ∀ j c r, es[j]? = some (c, r) → w.cell? ⟨g, j * 2, none⟩ = some (.string (mk c)) ∧ w.cell? ⟨g, j * 2 + 1, none⟩ = some (.string (mk r)))
theorem R2.ofOwn {w : World} {base n c : Nat} {A : Option Addr} {es : List (Bs × Bs)} (h : w.ownsRow base 27 2 (.slice A n c) n (recCells es)) (hl : es.length = n) : R2 w A n es := by
  refine ⟨hl, fun hn => ?_⟩
  obtain ⟨g, cap, cur, hv, -⟩ := h.2.resolve_left (by rintro ⟨-, h0⟩; omega)
  injection hv with hv _ hc
  subst hv hc
  refine ⟨g, rfl, fun j c r hj => ?_⟩
  have hjn : j < n := by rw [← hl]; exact (List.getElem?_eq_some_iff.1 hj).1
  obtain ⟨h1, h2⟩ := recCells_get es j c r hj
  exact ⟨by rw [h.cellAt (j * 2) (by omega)]; exact h1, by rw [h.cellAt (j * 2 + 1) (by omega)]; exact h2⟩
theorem R2.next {w w' : World} {A : Option Addr} {n : Nat} {es : List (Bs × Bs)} (h : R2 w A n es) (hb : Below w.heap.size w w') : R2 w' A n es := by
  refine ⟨h.1, fun hn => ?_⟩
  obtain ⟨g, h1, h2⟩ := h.2 hn
  exact ⟨g, h1, fun j c r hj => ⟨keepc hb (h2 j c r hj).1, keepc hb (h2 j c r hj).2⟩⟩

set_option maxRecDepth 20000 in
set_option maxHeartbeats 4000000 in
theorem eqRecs_self (A B : Option Addr) (n c d : Nat) (es : List (Bs × Bs)) (w : World) (hA : R2 w A n es) (hB : R2 w B n es) (hn : n ≤ 60) :
    Calls Tryd.prog 32 #[.slice A n c, .slice B n d] w (Bl w (.bool true)) := by
  go_enter Tryd.func32, Tryd.ntmps32
  go_wp2
  go_loopw [5] (fun i wr => ∃ (j : Nat), i = .int .i64 j ∧ j ≤ n ∧ Below w.heap.size w wr) (fun i _ => n - (intOf i).toNat)
  case atStart => exact ⟨0, rfl, Nat.zero_le _, Below.refl _ _⟩
  case round =>
    obtain ⟨j, rfl, hj, hT⟩ := hrel
    replace hA := hA.next hT
    replace hB := hB.next hT
    by_cases hlt : j < n
    · obtain ⟨g, rfl, hc⟩ := hA.2 (by omega)
      obtain ⟨g2, rfl, hc2⟩ := hB.2 (by omega)
      obtain ⟨⟨x, y⟩, hxy⟩ : ∃ e, es[j]? = some e := ⟨_, List.getElem?_eq_getElem (by rw [hA.1]; exact hlt)⟩
      obtain ⟨a0, a1⟩ := hc j x y hxy
      obtain ⟨b0, b1⟩ := hc2 j x y hxy
      have HXY := Lib.hid hxy
      have hj0 : (0 : Int) ≤ (j : Int) := by omega
      have hj1 : (j : Int) < (n : Int) := by omega
      clear hc hc2 hxy
      have Tk : Below wr.heap.size wr wr := Below.refl _ _
      go_upto_region 6 with fail
      go_region_held3 (fun w' => w'.cell? ⟨g, j * 2, none⟩ = some (.string (mk x)) ∧ w'.cell? ⟨g, j * 2 + 1, none⟩ = some (.string (mk y)) ∧ w'.cell? ⟨g2, j * 2, none⟩ = some (.string (mk x)) ∧ w'.cell? ⟨g2, j * 2 + 1, none⟩ = some (.string (mk y))) (first | go_keep | exact ⟨keepc Tk a0, keepc Tk a1, keepc Tk b0, keepc Tk b1⟩) (first | (go_at_call 51; refine (eqRec_self _ _ _).mono ?_; rintro e w1 ⟨rfl, hb1⟩; replace Tk := below_next (by first | exact Tk | exact Below.drew Tk) hb1 rfl) | fail)
      have hT1 := below_next hT Tk rfl
      go_wp2_with fail
      go_roundw
      case rel => exact ⟨j + 1, by go_num, by omega, hT1⟩
      case measure => simp [intOf]; omega
    · obtain rfl : j = n := by omega
      have hjn : ¬ (j : Int) < (j : Int) := by omega
      go_wp2_with fail
      go_ret
      exact ⟨rfl, hT⟩

def lrEs (d p : ByteArray) (n : Int) : List (Bs × Bs) := if vS (d ++ p) d n then recsOf (readAll (bs (d ++ p))) else []
def LogRE (w : World) (d p : ByteArray) (n : Int) (e : Ending) (w' : World) : Prop :=
  ∃ A c, e = .returned (.tuple #[.slice A (lrEs d p n).length c, .bool (vS (d ++ p) d n)]) ∧ w'.ownsRow w.heap.size 27 2 (.slice A (lrEs d p n).length c) (lrEs d p n).length (recCells (lrEs d p n)) ∧ Below w.heap.size w w'
theorem lrEs_len (d p : ByteArray) (n : Int) : (lrEs d p n).length ≤ 60 := by
  unfold lrEs
  split
  · rw [recsOf_len]; exact (readAll_split _).2.1
  · exact Nat.zero_le _

theorem LogRE.no {w w' : World} {d p : ByteArray} {n : Int} {A : Option Addr} {c : Nat} (h : vS (d ++ p) d n = false) (ho : w'.ownsRow w.heap.size 27 2 (.slice A 0 c) 0 []) (hb : Below w.heap.size w w') : LogRE w d p n (.returned (.tuple #[.slice A 0 c, .bool false])) w' := by
  have e : lrEs d p n = [] := by unfold lrEs; rw [h]; rfl
  refine ⟨A, c, ?_, ?_, hb⟩
  · rw [e, h]; rfl
  · rw [e]; exact ho
theorem LogRE.yes {w w' : World} {d p : ByteArray} {n : Int} {A : Option Addr} {c k : Nat} (h : vS (d ++ p) d n = true) (hk : (readAll (bs (d ++ p))).length = k) (ho : w'.ownsRow w.heap.size 27 2 (.slice A k c) k (recCells (recsOf (readAll (bs (d ++ p)))))) (hb : Below w.heap.size w w') : LogRE w d p n (.returned (.tuple #[.slice A k c, .bool true])) w' := by
  have e : lrEs d p n = recsOf (readAll (bs (d ++ p))) := by unfold lrEs; rw [h]; rfl
  have el : (recsOf (readAll (bs (d ++ p)))).length = k := by rw [recsOf_len]; exact hk
  refine ⟨A, c, ?_, ?_, hb⟩
  · rw [e, h, el]
  · rw [e, el]; exact ho

set_option maxHeartbeats 2000000 in
theorem implLogRecs_any (d p : ByteArray) (n : Int) (w : World) (hs : d.size + p.size ≤ 1048576) (ht : Tab w) :
    Calls Tryd.prog 31 #[logV d p n] w (LogRE w d p n) := by
  have hT := below_box w (.cells #[.string d, .string p, .int .i64 n] 31)
  have HV := Lib.hid (vP_eq (n := n) (bs_app d p))
  obtain ⟨v, HVV⟩ : ∃ s, Hid (vS (d ++ p) d n = s) := ⟨_, rfl⟩
  go_enter Tryd.func31, Tryd.ntmps31
  go_wp2_with fail
  refine (recordsOf_any d p n _ hs (ht.next hT)).mono ?_
  rintro e w3 ⟨A, c, rfl, ho, hb3⟩
  rw [HV.out, HVV.out]
  have hT3 := below_next hT hb3 rfl
  have ho' := own_lower ho hT.size
  clear ho hb3
  rcases v with _ | _
  · go_wp2_with fail
    go_ret2
    exact LogRE.no HVV.out (World.ownsRow_lit w3 #[] 0 hT3.size (Nat.zero_le _) rfl) (below_next hT3 (below_box _ _) rfl)
  · obtain ⟨k, HK⟩ : ∃ k, Hid (cntA (d ++ p) = k) := ⟨_, rfl⟩
    rw [HK.out] at ho' ⊢
    go_wp2_with fail
    go_ret2
    exact LogRE.yes HVV.out HK.out ho' hT3

set_option maxHeartbeats 2000000 in
theorem specLogRecs_any (d p : ByteArray) (n : Int) (w : World) (hs : d.size + p.size ≤ 1048576) :
    Calls Tryd.prog 30 #[logV d p n] w (LogRE w d p n) := by
  have hT := below_box w (.cells #[.string d, .string p, .int .i64 n] 31)
  have BX := Blk.new w 31 #[.string d, .string p, .int .i64 n]
  have kc := cat d p (by omega)
  have hsz : (d ++ p).size = d.size + p.size := ByteArray.size_append ..
  obtain ⟨v, HVV⟩ : ∃ s, Hid (vS (d ++ p) d n = s) := ⟨_, rfl⟩
  go_enter Tryd.func30, Tryd.ntmps30
  go_wp2_with fail
  refine (l33Log_any d p n _ hs).mono ?_
  rintro e w3 ⟨rfl, hb3⟩
  rw [HVV.out]
  have hT3 := below_next hT hb3 rfl
  replace BX := BX.next hb3
  clear hb3
  rcases v with _ | _
  · go_wp2_with fail
    go_ret2
    exact LogRE.no HVV.out (World.ownsRow_lit w3 #[] 0 hT3.size (Nat.zero_le _) rfl) (below_next hT3 (below_box _ _) rfl)
  · have cN0 := BX.cell 0
    have cN1 := BX.cell 1
    simp at cN0 cN1
    go_wp2_with fail
    refine (l33Open_any (d ++ p) _ (by omega)).mono ?_
    rintro e w4 ⟨A, c, rfl, ho, hb4⟩
    have hT4 := below_next hT3 hb4 rfl
    have ho' := own_lower ho hT3.size
    clear ho hb4
    obtain ⟨k, HK⟩ : ∃ k, Hid ((readAll (bs (d ++ p))).length = k) := ⟨_, rfl⟩
    rw [HK.out] at ho' ⊢
    go_wp2_with fail
    go_ret2
    exact LogRE.yes HVV.out HK.out ho' hT4
end Go.Proofs.YteogfjddkaodkaaDoor
