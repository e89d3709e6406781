
/- Walks: the drawn record. -/
import Derived.Test.YteogfjddkaodkaaDoorCur2
import Derived.Laws.MakeOwn
import Derived.Laws.IdiomStrings
namespace Go.Proofs.YteogfjddkaodkaaDoor
open Go.RowKit

theorem grown_box (w : World) (o : Obj) (r : Option Nat) : w.grownBy (w.alloc o) r := ⟨rfl, rfl, rfl, by simp, fun k hk _ => Below.heap_alloc w o k hk⟩
theorem texts5 (w : World) (g : Nat) (a b c d e : ByteArray) (M : Nat) (hg : g < w.heap.size) (ha : a.size ≤ M) (hb : b.size ≤ M) (hc : c.size ≤ M) (hd : d.size ≤ M) (he : e.size ≤ M) {k : Nat} (hk : k = w.heap.size) :
    TextsIn (w.alloc (.cells #[.string a, .string b, .string c, .string d, .string e] 9)) g k 5 M := by
  subst hk
  refine ⟨by omega, by decide, by decide, fun i hi => ?_⟩
  match i, hi with
  | 0, _ => exact ⟨a, ha, by simp⟩
  | 1, _ => exact ⟨b, hb, by simp⟩
  | 2, _ => exact ⟨c, hc, by simp⟩
  | 3, _ => exact ⟨d, hd, by simp⟩
  | 4, _ => exact ⟨e, he, by simp⟩
theorem texts3 (w : World) (g : Nat) (a b c : ByteArray) (M : Nat) (hg : g < w.heap.size) (ha : a.size ≤ M) (hb : b.size ≤ M) (hc : c.size ≤ M) {k : Nat} (hk : k = w.heap.size) :
    TextsIn (w.alloc (.cells #[.string a, .string b, .string c] 9)) g k 3 M := by
  subst hk
  refine ⟨by omega, by decide, by decide, fun i hi => ?_⟩
  match i, hi with
  | 0, _ => exact ⟨a, ha, by simp⟩
  | 1, _ => exact ⟨b, hb, by simp⟩
  | 2, _ => exact ⟨c, hc, by simp⟩
theorem CurOk.lt {w : World} {g t : Nat} (h : CurOk w g t) : g < w.heap.size := by
  obtain ⟨A, n, c, a, s, h1, -⟩ := h
  exact h1.lt

theorem grown_new {w w' : World} {r : Option Nat} (h : w.grownBy w' r) {p : Addr} (hp : w.heap.size ≤ p.block) (v : Value) : w.grownBy (w'.setCell p v) r :=
  ⟨h.os, h.tape, h.output, by simpa using h.size, fun k hk hne => (Below.heap_setCell w' p v k (by omega)).trans (h.block k hk hne)⟩
theorem CurOk.setRec {w : World} {g t e i : Nat} {ty : TypeId} {c r : ByteArray} (h : CurOk w g t) (hB : Blk w e ty #[.string c, .string r]) (hne : e ≠ g) (v : Value) : CurOk (w.setCell ⟨e, i, none⟩ v) g t := by
  obtain ⟨A, n, c', a, s, h1, h2, h3, h4, h5, h6⟩ := h
  refine ⟨A, n, c', a, s, h1.far (fun he => hne he.symm) _, h2, h3, h4, h5, fun hn => ?_⟩
  obtain ⟨b, o, e1, hbg, hc⟩ := h6 hn
  refine ⟨b, o, e1, hbg, fun i hi => ?_⟩
  obtain ⟨x, hx, hcx⟩ := hc i hi
  refine ⟨x, hx, ?_⟩
  rw [World.cell?_setCell_far _ _ _ _ (by
    intro he
    have he' : e = b := he
    subst he'
    rw [hB.cell] at hcx
    match o + i, hcx with
    | 0, hcx => simp at hcx
    | 1, hcx => simp at hcx
    | k + 2, hcx => simp at hcx)]
  exact hcx

def RecDrawn (w : World) (g t : Nat) (e : Ending) (w' : World) : Prop := ∃ c r : ByteArray, c.size ≤ 20 ∧ r.size ≤ 20 ∧ e = .returned (.agg #[.string c, .string r]) ∧ CurOk w' g t ∧ w.grownBy w' (some g)

theorem fin_rec {w wk : World} {g t t' : Nat} {ty : TypeId} {a b c r : ByteArray} (BX : Blk wk w.heap.size ty #[.string a, .string b]) (H : CurOk wk g t') (G : w.grownBy wk (some g)) (hg : w.heap.size ≠ g) (ht : t' ≤ t) :
    Blk ((wk.setCell ⟨w.heap.size, 0, none⟩ (.string c)).setCell ⟨w.heap.size, 1, none⟩ (.string r)) w.heap.size ty #[.string c, .string r] ∧ CurOk ((wk.setCell ⟨w.heap.size, 0, none⟩ (.string c)).setCell ⟨w.heap.size, 1, none⟩ (.string r)) g t ∧ w.grownBy ((wk.setCell ⟨w.heap.size, 0, none⟩ (.string c)).setCell ⟨w.heap.size, 1, none⟩ (.string r)) (some g) := by
  have B1 : Blk (wk.setCell ⟨w.heap.size, 0, none⟩ (.string c)) w.heap.size ty #[.string c, .string b] := by simpa using BX.set_ 0 (.string c)
  have B2 : Blk ((wk.setCell ⟨w.heap.size, 0, none⟩ (.string c)).setCell ⟨w.heap.size, 1, none⟩ (.string r)) w.heap.size ty #[.string c, .string r] := by simpa using B1.set_ 1 (.string r)
  exact ⟨B2, ((H.setRec (i := 0) BX hg _).setRec (i := 1) B1 hg _).mono ht, grown_new (grown_new G (p := ⟨w.heap.size, 0, none⟩) (Nat.le_refl _) _) (p := ⟨w.heap.size, 1, none⟩) (Nat.le_refl _) _⟩

theorem info_u8 : (Tryd.prog.info? 5).map (fun i => (i.zero, i.size, i.bytes)) = some (some (.int .u8 0), 1, 1) := by kernel_rfl
theorem make3 (w : World) : (Instr.makeSlice 53 (.int .i64 3) (.int .i64 3)).run Tryd.prog w = .ok (.slice (some ⟨w.heap.size, 0, none⟩) 3 3) (w.alloc (.cells #[.int .u8 0, .int .u8 0, .int .u8 0] 5)) := by
  obtain ⟨i, hi, hz, hsize, hby⟩ := info_parts info_u8
  have h := run_makeSlice (P := Tryd.prog) w 53 5 i (.int .u8 0) Tryd.underlying53 hi hz .i64 .i64 3 3 (by decide) (by decide) (by rw [hsize]; decide) (by rw [hby]; decide) (by decide)
  rw [hsize] at h
  have e : madeCells (Value.int IntKind.u8 0).cells (Int.toNat 3 * 1) = #[.int .u8 0, .int .u8 0, .int .u8 0] := by kernel_rfl
  rw [e] at h
  exact h
theorem conv3 (w : World) : (convert 53 9 (.slice (some ⟨w.heap.size, 0, none⟩) 3 3)).run Tryd.prog (w.alloc (.cells #[.int .u8 0, .int .u8 0, .int .u8 0] 5)) = .ok (.string (mk [0, 0, 0])) (w.alloc (.cells #[.int .u8 0, .int .u8 0, .int .u8 0] 5)) := by
  refine run_convert_bytes_back (P := Tryd.prog) _ 53 9 5 ⟨w.heap.size, 0, none⟩ 3 [0, 0, 0] Tryd.underlying53 Tryd.underlying5 Tryd.underlying9 (fun j hj => ?_)
  match j, hj with
  | 0, _ => simp [Addr.add]
  | 1, _ => simp [Addr.add]
  | 2, _ => simp [Addr.add]

set_option maxRecDepth 20000 in
set_option maxHeartbeats 4000000 in
theorem logRecord_any (g t : Nat) (w : World) (h : CurOk w g t) (ht : t ≤ 999999900) :
    Calls Tryd.prog 54 #[.pointer (some ⟨g, 0, none⟩)] w (RecDrawn w g (t + 8)) := by
  have hb0 := below_box w (.cells #[.string ⟨#[]⟩, .string ⟨#[]⟩] 27)
  have h1 := h.next_ hb0
  have BX := Blk.new w 27 #[.string ⟨#[]⟩, .string ⟨#[]⟩]
  have G0 := grown_box w (.cells #[.string ⟨#[]⟩, .string ⟨#[]⟩] 27) (some g)
  have hgX := h.lt
  go_enter Tryd.func54, Tryd.ntmps54
  go_wp2_with fail
  refine (of_any g t _ 5 5 20 _ (h1.next_ (below_box _ _)) (by omega) (texts5 _ g _ _ _ _ _ 20 (by simp; omega) (by decide) (by decide) (by decide) (by decide) (by decide) (by simp))).mono ?_
  rintro e w1 ⟨c, hc, rfl, H1, g1⟩
  have G1 := grown_trans (grown_trans G0 (grown_box _ _ _)) g1
  replace BX := (BX.next (below_box _ _)).grown g1 (by simp; omega)
  clear h1 hb0 G0 g1
  go_wp2_with fail
  refine (of_any g (t + 2) _ 5 5 20 _ (H1.next_ (below_box _ _)) (by omega) (texts5 _ g _ _ _ _ _ 20 H1.lt (by decide) (by decide) (by decide) (by decide) (by decide) rfl)).mono ?_
  rintro e w2 ⟨r, hr, rfl, H2, g2⟩
  have G2 := grown_trans (grown_trans G1 (grown_box _ _ _)) g2
  replace BX := (BX.next (below_box _ _)).grown g2 (by simp; omega)
  clear G1 g2 H1
  have hwX := BX.lt
  have hbe := below_box w2 (.cells #[.string c, .string r] 27)
  have H3 := H2.next_ hbe
  have G3 := grown_trans G2 (grown_box w2 (.cells #[.string c, .string r] 27) (some g))
  replace BX := BX.next hbe
  have BE := Blk.new w2 27 #[.string c, .string r]
  have hEg : w2.heap.size ≠ g := by have := H2.lt; omega
  clear hbe
  obtain ⟨w3, hw3⟩ : ∃ w3, Hid (w3 = w2.alloc (.cells #[.string c, .string r] 27)) := ⟨_, rfl⟩
  rw [← hw3.out] at H3 G3 BX BE
  go_wp2_with (rw [← hw3.out]; clear hw3)
  refine (pick_any g (t + 2 + 2) 24 _ H3 (by omega) (by decide)).mono ?_
  rintro e w4 ⟨x, hx, rfl, H4, g4⟩
  have G4 := grown_trans G3 g4
  replace BX := BX.grown g4 (by simp; omega)
  replace BE := BE.grown g4 (by simp; omega)
  clear G3 g4 H3
  have hEX : w.heap.size ≠ w2.heap.size := by omega
  have hwE : w.heap.size ≤ w2.heap.size := by omega
  by_cases hx0 : x = 0
  · subst hx0
    have cE0 := BE.cell 0
    have cE1 := BE.cell 1
    have fE0 := BE.frozen 0
    simp at cE0 cE1
    have hmk := make3 w4
    have hcv := conv3 w4
    obtain ⟨Z, HZ⟩ : ∃ Z, Hid (mk [0, 0, 0] = Z) := ⟨_, rfl⟩
    have hzs : Z.size ≤ 20 := by rw [← HZ.out, size_mk]; decide
    rw [HZ.out] at hcv
    go_wp2_with fail
    have hb4 := below_box2 w4 (.cells #[.int .u8 0, .int .u8 0, .int .u8 0] 5) (.cells #[.string ⟨#[]⟩, .string ⟨#[97, 64, 98]⟩, .string ⟨#[97, 35]⟩, .string ⟨#[10]⟩, .string Z] 9)
    refine (of_any g (t + 2 + 2 + 2) _ 5 5 20 _ (H4.next_ hb4) (by omega) (texts5 _ g _ _ _ _ _ 20 (by have := H4.lt; simp; omega) (by decide) (by decide) (by decide) (by decide) hzs (by simp))).mono ?_
    rintro e w5 ⟨c2, hc2, rfl, H5, g5⟩
    have G5 := grown_trans (grown_trans (grown_trans G4 (grown_box _ _ _)) (grown_box _ _ _)) g5
    replace BX := (BX.next hb4).grown g5 (by simp; omega)
    replace BE := (BE.next hb4).grown g5 (by simp; omega)
    have H6 := H5.setRec (i := 0) BE hEg (.string c2)
    have G6 := grown_new G5 (p := ⟨w2.heap.size, 0, none⟩) hwE (.string c2)
    replace BX := BX.far (p := ⟨w2.heap.size, 0, none⟩) hEX (.string c2)
    have BE6 : Blk (w5.setCell ⟨w2.heap.size, 0, none⟩ (.string c2)) w2.heap.size 27 #[.string c2, .string r] := by simpa using BE.set_ 0 (.string c2)
    have fE := BE.frozen 0
    clear fE0 cE0 cE1 hmk hcv
    have cE0 := BE.cell 0
    simp at cE0
    obtain ⟨w6, hw6⟩ : ∃ w6, Hid (w6 = w5.setCell ⟨w2.heap.size, 0, none⟩ (.string c2)) := ⟨_, rfl⟩
    rw [← hw6.out] at H6 G6 BX BE6
    have cX0 := BX.cell 0
    have cX1 := BX.cell 1
    have fX0 := BX.frozen 0
    have fX1 := BX.frozen 1
    have cF0 := BE6.cell 0
    have cF1 := BE6.cell 1
    simp at cX0 cX1 cF0 cF1
    go_wp2_with (rw [← hw6.out]; clear hw6)
    obtain ⟨BZ, HF, GF⟩ := fin_rec (c := c2) (r := r) BX H6 G6 (by omega) (show _ ≤ t + 8 by omega)
    (try simp only [Exit.inBlock, Exit.then])
    refine bodyPost_ret (v := .agg #[.string c2, .string r]) (results_cell_row rfl _ _ w.heap.size 27 #[.string c2, .string r] (0, 0) _ (by simp) BZ Tryd.underlying27 rfl (by kernel_rfl)) rfl ?_
    exact ⟨c2, r, hc2, hr, rfl, HF, GF⟩
  · by_cases hx1 : x = 1
    · subst hx1
      have cE0 := BE.cell 0
      have cE1 := BE.cell 1
      have fE1 := BE.frozen 1
      simp at cE0 cE1
      go_wp2_with fail
      refine (of_any g (t + 2 + 2 + 2) _ 3 3 20 _ (H4.next_ (below_box _ _)) (by omega) (texts3 _ g _ _ _ 20 H4.lt (by decide) (by decide) (by decide) rfl)).mono ?_
      rintro e w5 ⟨r2, hr2, rfl, H5, g5⟩
      have G5 := grown_trans (grown_trans G4 (grown_box _ _ _)) g5
      replace BX := (BX.next (below_box _ _)).grown g5 (by simp; omega)
      replace BE := (BE.next (below_box _ _)).grown g5 (by simp; omega)
      have H6 := H5.setRec (i := 1) BE hEg (.string r2)
      have G6 := grown_new G5 (p := ⟨w2.heap.size, 1, none⟩) hwE (.string r2)
      replace BX := BX.far (p := ⟨w2.heap.size, 1, none⟩) hEX (.string r2)
      have BE6 : Blk (w5.setCell ⟨w2.heap.size, 1, none⟩ (.string r2)) w2.heap.size 27 #[.string c, .string r2] := by simpa using BE.set_ 1 (.string r2)
      have fE := BE.frozen 1
      clear fE1 cE0 cE1
      have cE1 := BE.cell 1
      simp at cE1
      obtain ⟨w6, hw6⟩ : ∃ w6, Hid (w6 = w5.setCell ⟨w2.heap.size, 1, none⟩ (.string r2)) := ⟨_, rfl⟩
      rw [← hw6.out] at H6 G6 BX BE6
      have cX0 := BX.cell 0
      have cX1 := BX.cell 1
      have fX0 := BX.frozen 0
      have fX1 := BX.frozen 1
      have cF0 := BE6.cell 0
      have cF1 := BE6.cell 1
      simp at cX0 cX1 cF0 cF1
      go_wp2_with (rw [← hw6.out]; clear hw6)
      obtain ⟨BZ, HF, GF⟩ := fin_rec (c := c) (r := r2) BX H6 G6 (by omega) (show _ ≤ t + 8 by omega)
      (try simp only [Exit.inBlock, Exit.then])
      refine bodyPost_ret (v := .agg #[.string c, .string r2]) (results_cell_row rfl _ _ w.heap.size 27 #[.string c, .string r2] (0, 0) _ (by simp) BZ Tryd.underlying27 rfl (by kernel_rfl)) rfl ?_
      exact ⟨c, r2, hc, hr2, rfl, HF, GF⟩
    · have hxe0 : ((x : Int) == 0) = false := by simp; omega
      have hxe1 : ((x : Int) == 1) = false := by simp; omega
      have cX0 := BX.cell 0
      have cX1 := BX.cell 1
      have fX0 := BX.frozen 0
      have fX1 := BX.frozen 1
      have cE0 := BE.cell 0
      have cE1 := BE.cell 1
      simp at cX0 cX1 cE0 cE1
      go_wp2_with fail
      obtain ⟨BZ, HF, GF⟩ := fin_rec (c := c) (r := r) BX H4 G4 (by omega) (show _ ≤ t + 8 by omega)
      (try simp only [Exit.inBlock, Exit.then])
      refine bodyPost_ret (v := .agg #[.string c, .string r]) (results_cell_row rfl _ _ w.heap.size 27 #[.string c, .string r] (0, 0) _ (by simp) BZ Tryd.underlying27 rfl (by kernel_rfl)) rfl ?_
      exact ⟨c, r, hc, hr, rfl, HF, GF⟩
end Go.Proofs.YteogfjddkaodkaaDoor
