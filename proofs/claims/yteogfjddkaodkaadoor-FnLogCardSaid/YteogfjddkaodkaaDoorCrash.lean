
/- Walks and law: CrashLog. -/
import Derived.Test.YteogfjddkaodkaaDoorSync
import Derived.Lib.ConvBytes
import Derived.Laws.IdiomStrings
namespace Go.Proofs.YteogfjddkaodkaaDoor
open Go.RowKit

theorem below_bytes (w : World) (e : TypeId) (s : ByteArray) : Below w.heap.size w (Lib.bytesWorld w e s) :=
  ⟨rfl, rfl, rfl, by rw [Lib.bytesWorld_size]; omega, fun k hk => Lib.bytesWorld_at_old w e s k hk⟩
theorem bytes_frozen (w : World) (e : TypeId) (s : ByteArray) (j : Nat) (hj : j < s.size) : (Lib.bytesWorld w e s).frozen? ⟨w.heap.size, j, none⟩ = false := by
  unfold World.frozen?
  rw [Lib.bytesWorld_at_new]
  have : s.size ≤ (Lib.bytesCells w e s).size := by unfold Lib.bytesCells; simp
  simp
  omega
theorem bytes_cell (w : World) (e : TypeId) (s : ByteArray) (j : Nat) (b : UInt8) (hj : (bs s)[j]? = some b) : (Lib.bytesWorld w e s).cell? ⟨w.heap.size, j, none⟩ = some (.int .u8 b.toNat) := by
  have hlt : j < s.size := (List.getElem?_eq_some_iff.1 hj).1
  rw [Lib.bytesWorld_cell w e s j hlt]
  have : s.data.toList.getD j 0 = b := by
    show (bs s).getD j 0 = b
    rw [List.getD, hj]
    rfl
  rw [this]
def tornL (l : Bs) (torn : Bool) : Bs := if torn && decide (0 < l.length) then l.set (l.length - 1) (UInt8.ofNat (255 - (l[l.length - 1]?.getD 0).toNat)) else l
def crB (d p : ByteArray) (n keep : Int) : Bool := vS (d ++ p) d n && inB keep 0 p.size
def crS (d p : ByteArray) (n keep : Int) (torn : Bool) : ByteArray := if crB d p n keep then d ++ mk (tornL ((bs p).take keep.toNat) torn) else ⟨#[]⟩
theorem tornL_len (l : Bs) (torn : Bool) : (tornL l torn).length = l.length := by unfold tornL; split <;> simp
def CrashE (w : World) (d p : ByteArray) (n keep : Int) (torn : Bool) (e : Ending) (w' : World) : Prop := e = .returned (.tuple #[.string (crS d p n keep torn), .bool (crB d p n keep)]) ∧ Below w.heap.size w w'
theorem crash_no {d p : ByteArray} {n keep : Int} {torn : Bool} (h : crB d p n keep = false) : (⟨#[]⟩ : ByteArray) = crS d p n keep torn := by unfold crS; rw [h]; rfl
theorem take_bs {p : ByteArray} {q : Nat} : bs (p.extract 0 q) = (bs p).take q := by rw [bs_ext]; simp

theorem back_ (w3 w : World) (q c : Nat) (l : Bs) (hl : l.length = q) (hc : ∀ j b, l[j]? = some b → w.cell? ⟨w3.heap.size, j, none⟩ = some (.int .u8 (b.toNat : Int))) :
    (convert 53 9 (.slice (some ⟨w3.heap.size, 0, none⟩) q c)).run Tryd.prog w = .ok (.string (mk l)) w := by
  subst hl
  exact run_convert_bytes_back (P := Tryd.prog) w 53 9 5 ⟨w3.heap.size, 0, none⟩ c l Tryd.underlying53 Tryd.underlying5 Tryd.underlying9 (fun j hj => by
    have : (⟨w3.heap.size, 0, none⟩ : Addr).add j = ⟨w3.heap.size, j, none⟩ := by simp [Addr.add]; intro h; exact h.symm
    rw [this]
    exact hc j l[j] (List.getElem?_eq_getElem hj))

theorem torn_back (w3 : World) (P : ByteArray) (q : Nat) (b : UInt8) (hP : P.size = q) (hb : (bs P)[q - 1]? = some b) (hq : 0 < q) : ∀ j c, ((bs P).set (q - 1) (UInt8.ofNat (255 - b.toNat)))[j]? = some c →
    ((Lib.bytesWorld w3 5 P).setCell ⟨w3.heap.size, q - 1, none⟩ (.int .u8 ((255 - (b.toNat : Int)) % 256))).cell? ⟨w3.heap.size, j, none⟩ = some (.int .u8 (c.toNat : Int)) := by
  intro j c hj
  by_cases h : q - 1 = j
  · subst h
    rw [List.getElem?_set_self (by have : (bs P).length = P.size := rfl; omega)] at hj
    injection hj with hj
    subst hj
    rw [World.cell?_setCell_same _ _ _ (bytes_cell w3 5 P (q - 1) b hb)]
    have : (UInt8.ofNat (255 - b.toNat)).toNat = (255 - b.toNat) % 256 := by simp
    rw [this]
    have hb2 := b.toNat_lt
    exact congrArg (fun x => some (Value.int .u8 x)) (by omega)
  · rw [List.getElem?_set_ne h] at hj
    rw [World.cell?_setCell_other _ _ _ _ (by intro he; injection he with _ he _; exact h he)]
    exact bytes_cell w3 5 P j c hj

set_option maxRecDepth 20000 in
set_option maxHeartbeats 2000000 in
theorem implCrash_any (d p : ByteArray) (n keep : Int) (torn : Bool) (w : World) (hs : d.size + p.size ≤ 1048576) (hk0 : -9223372036854775808 ≤ keep) (hk1 : keep ≤ 9223372036854775807) (ht : Tab w) :
    Calls Tryd.prog 25 #[logV d p n, .int .i64 keep, .bool torn] w (CrashE w d p n keep torn) := by
  have hT := below_box w (.cells #[.string d, .string p, .int .i64 n] 31)
  have BX := Blk.new w 31 #[.string d, .string p, .int .i64 n]
  obtain ⟨v, HV⟩ : ∃ s, Hid (vS (d ++ p) d n = s) := ⟨_, rfl⟩
  go_enter Tryd.func25, Tryd.ntmps25
  rcases v with _ | _
  · have hc : Hid (crB d p n keep = false) := by show _ = _; unfold crB; rw [HV.out]; rfl
    have HS := Lib.hid (crash_no (torn := torn) hc.out)
    go_wp2_with (go_at_call 23; refine (implValidLog_any d p n _ hs (ht.next hT)).mono ?_; rintro e w3 ⟨rfl, hb3⟩; rw [HV.out]; have hT3 := below_next hT hb3 rfl; clear hb3)
    go_ret2
    exact ⟨ret_sb HS.out hc.out.symm, hT3⟩
  · by_cases hneg : keep < 0
    · have hc : Hid (crB d p n keep = false) := by show _ = _; unfold crB; rw [HV.out]; unfold inB; simp; omega
      have HS := Lib.hid (crash_no (torn := torn) hc.out)
      go_wp2_with (go_at_call 23; refine (implValidLog_any d p n _ hs (ht.next hT)).mono ?_; rintro e w3 ⟨rfl, hb3⟩; rw [HV.out]; have hT3 := below_next hT hb3 rfl; clear hb3)
      go_ret2
      exact ⟨ret_sb HS.out hc.out.symm, hT3⟩
    · by_cases hbig : (p.size : Int) < keep
      · have hc : Hid (crB d p n keep = false) := by show _ = _; unfold crB; rw [HV.out]; unfold inB; simp; omega
        have HS := Lib.hid (crash_no (torn := torn) hc.out)
        go_wp2_with (go_at_call 23; refine (implValidLog_any d p n _ hs (ht.next hT)).mono ?_; rintro e w3 ⟨rfl, hb3⟩; rw [HV.out]; have hT3 := below_next hT hb3 rfl; replace BX := BX.next hb3; clear hb3; have cX1 := BX.cell 1; simp at cX1)
        go_ret2
        exact ⟨ret_sb HS.out hc.out.symm, hT3⟩
      · obtain ⟨q, rfl⟩ : ∃ q : Nat, keep = q := ⟨keep.toNat, by omega⟩
        have hq : q ≤ p.size := by omega
        have hc : Hid (crB d p n q = true) := by show _ = _; unfold crB; rw [HV.out]; unfold inB; simp; omega
        have HS : Hid (d ++ mk (tornL ((bs p).take q) torn) = crS d p n q torn) := by
          show _ = _
          unfold crS
          rw [hc.out, if_pos rfl, Int.toNat_natCast]
        have hq0 : (0 : Int) ≤ q := by omega
        have hq1 : (q : Int) ≤ p.size := by omega
        have hps : (p.extract 0 q).size = q := by
          have h1 := congrArg List.length (take_bs (p := p) (q := q))
          rw [List.length_take] at h1
          have h2 : (bs (p.extract 0 q)).length = (p.extract 0 q).size := rfl
          have h3 : (bs p).length = p.size := rfl
          omega
        have HPS := Lib.hid hps
        rcases torn with _ | _
        · have hl : Hid (tornL ((bs p).take q) false = (bs p).take q) := rfl
          have ka := cat d (mk ((bs p).take q)) (by have := size_mk ((bs p).take q); rw [List.length_take] at this; omega)
          go_wp2_with (go_at_call 23; refine (implValidLog_any d p n _ hs (ht.next hT)).mono ?_; rintro e w3 ⟨rfl, hb3⟩; rw [HV.out]; have hT3 := below_next hT hb3 rfl; replace BX := BX.next hb3; clear hb3; have cX0 := BX.cell 0; have cX1 := BX.cell 1; simp at cX0 cX1; have hcv := Lib.run_convert_string_bytes (P := Tryd.prog) w3 9 53 5 (p.extract 0 q) (u := .string) Tryd.underlying9 Tryd.underlying53 Tryd.underlying5; have hT4 := below_next hT3 (below_bytes w3 5 (p.extract 0 q)) rfl; have cY0 := keepc (below_bytes w3 5 (p.extract 0 q)) cX0; have hbk := back_ w3 (Lib.bytesWorld w3 5 (p.extract 0 q)) q (grownCap w3 q 0 5) ((bs p).take q) (by rw [← take_bs]; exact HPS.out) (fun j b hj => bytes_cell w3 5 (p.extract 0 q) j b (by rw [take_bs]; exact hj)))
          go_ret2
          exact ⟨ret_sb (by rw [← HS.out, hl.out]) hc.out.symm, hT4⟩
        · by_cases hqp : 0 < q
          rotate_left
          · have hl : Hid (tornL ((bs p).take q) true = (bs p).take q) := by
              show _ = _
              unfold tornL
              rw [show q = 0 by omega]
              simp
            have hqn : ¬ (0 : Int) < (q : Int) := by omega
            have ka := cat d (mk ((bs p).take q)) (by have := size_mk ((bs p).take q); rw [List.length_take] at this; omega)
            go_wp2_with (go_at_call 23; refine (implValidLog_any d p n _ hs (ht.next hT)).mono ?_; rintro e w3 ⟨rfl, hb3⟩; rw [HV.out]; have hT3 := below_next hT hb3 rfl; replace BX := BX.next hb3; clear hb3; have cX0 := BX.cell 0; have cX1 := BX.cell 1; simp at cX0 cX1; have hcv := Lib.run_convert_string_bytes (P := Tryd.prog) w3 9 53 5 (p.extract 0 q) (u := .string) Tryd.underlying9 Tryd.underlying53 Tryd.underlying5; have hT4 := below_next hT3 (below_bytes w3 5 (p.extract 0 q)) rfl; have cY0 := keepc (below_bytes w3 5 (p.extract 0 q)) cX0; have hbk := back_ w3 (Lib.bytesWorld w3 5 (p.extract 0 q)) q (grownCap w3 q 0 5) ((bs p).take q) (by rw [← take_bs]; exact HPS.out) (fun j b hj => bytes_cell w3 5 (p.extract 0 q) j b (by rw [take_bs]; exact hj)))
            go_ret2
            exact ⟨ret_sb (by rw [← HS.out, hl.out]) hc.out.symm, hT4⟩
          · obtain ⟨b, hbj⟩ : ∃ b, ((bs p).take q)[q - 1]? = some b := ⟨_, List.getElem?_eq_getElem (by rw [← take_bs]; have : (bs (p.extract 0 q)).length = (p.extract 0 q).size := rfl; omega)⟩
            have hln : ((bs p).take q).length = q := by rw [← take_bs]; exact HPS.out
            have hl : Hid (tornL ((bs p).take q) true = ((bs p).take q).set (q - 1) (UInt8.ofNat (255 - b.toNat))) := by
              show _ = _
              unfold tornL
              rw [hln, hbj]
              simp
              omega
            have HBJ := Lib.hid hbj
            clear hbj hln
            have ka := cat d (mk (((bs p).take q).set (q - 1) (UInt8.ofNat (255 - b.toNat)))) (by have := size_mk (((bs p).take q).set (q - 1) (UInt8.ofNat (255 - b.toNat))); rw [List.length_set, List.length_take] at this; omega)
            go_wp2_with (go_at_call 23; (refine (implValidLog_any d p n _ hs (ht.next hT)).mono ?_; rintro e w3 ⟨rfl, hb3⟩; rw [HV.out]; have hT3 := below_next hT hb3 rfl; replace BX := BX.next hb3; clear hb3; have cX0 := BX.cell 0; have cX1 := BX.cell 1; simp at cX0 cX1; have hcv := Lib.run_convert_string_bytes (P := Tryd.prog) w3 9 53 5 (p.extract 0 q) (u := .string) Tryd.underlying9 Tryd.underlying53 Tryd.underlying5; have hT4 := below_next hT3 (below_bytes w3 5 (p.extract 0 q)) rfl; have cY0 := keepc (below_bytes w3 5 (p.extract 0 q)) cX0; have cB := bytes_cell w3 5 (p.extract 0 q) (q - 1) b (by rw [take_bs]; exact HBJ.out); have fB := bytes_frozen w3 5 (p.extract 0 q) (q - 1) (by rw [HPS.out]; omega); have hlt3 := BX.lt; have hT5 := Below.setCell hT4 (show w.heap.size ≤ (⟨w3.heap.size, q - 1, none⟩ : Addr).block from hT3.size) (.int .u8 ((255 - (b.toNat : Int)) % 256)); have cZ0 := (World.cell?_setCell_far (Lib.bytesWorld w3 5 (p.extract 0 q)) ⟨w3.heap.size, q - 1, none⟩ ⟨w.heap.size, 0, none⟩ (.int .u8 ((255 - (b.toNat : Int)) % 256)) (Nat.ne_of_gt hlt3)).trans cY0; have hbk := back_ w3 _ q (grownCap w3 q 0 5) (((bs p).take q).set (q - 1) (UInt8.ofNat (255 - b.toNat))) (by rw [List.length_set, ← take_bs]; exact HPS.out) (by rw [← take_bs]; exact torn_back w3 (p.extract 0 q) q b HPS.out (by rw [take_bs]; exact HBJ.out) hqp)))
            go_ret2
            exact ⟨ret_sb (by rw [← HS.out, hl.out]) hc.out.symm, hT5⟩

set_option maxRecDepth 20000 in
set_option maxHeartbeats 2000000 in
theorem specCrash_any (d p : ByteArray) (n keep : Int) (torn : Bool) (w : World) (hs : d.size + p.size ≤ 1048576) (hk0 : -9223372036854775808 ≤ keep) (hk1 : keep ≤ 9223372036854775807) :
    Calls Tryd.prog 24 #[logV d p n, .int .i64 keep, .bool torn] w (CrashE w d p n keep torn) := by
  have hT := below_box w (.cells #[.string d, .string p, .int .i64 n] 31)
  have BX := Blk.new w 31 #[.string d, .string p, .int .i64 n]
  obtain ⟨v, HV⟩ : ∃ s, Hid (vS (d ++ p) d n = s) := ⟨_, rfl⟩
  go_enter Tryd.func24, Tryd.ntmps24
  rcases v with _ | _
  · have HIN : Hid (inB keep 0 p.size = inB keep 0 p.size) := rfl
    have hc : Hid (crB d p n keep = false) := by show _ = _; unfold crB; rw [HV.out]; rfl
    have HS := Lib.hid (crash_no (torn := torn) hc.out)
    go_wp2_with (first | (go_at_call 42; refine (l1In_any _ _ _ _).mono ?_; rintro e w' ⟨rfl, rfl⟩; rw [HIN.out]) | (go_at_call 49; refine (l33Log_any d p n _ hs).mono ?_; rintro e w3 ⟨rfl, hb3⟩; rw [HV.out]; have hT3 := below_next hT hb3 rfl; clear hb3))
    go_ret2
    exact ⟨ret_sb HS.out hc.out.symm, hT3⟩
  · by_cases hneg : keep < 0
    · have HIN : Hid (inB keep 0 p.size = false) := by show _ = _; unfold inB; simp; omega
      have hc : Hid (crB d p n keep = false) := by show _ = _; unfold crB; rw [HV.out]; unfold inB; simp; omega
      have HS := Lib.hid (crash_no (torn := torn) hc.out)
      go_wp2_with (first | (go_at_call 42; refine (l1In_any _ _ _ _).mono ?_; rintro e w' ⟨rfl, rfl⟩; rw [HIN.out]) | (go_at_call 49; refine (l33Log_any d p n _ hs).mono ?_; rintro e w3 ⟨rfl, hb3⟩; rw [HV.out]; have hT3 := below_next hT hb3 rfl; replace BX := BX.next hb3; clear hb3; have cX1 := BX.cell 1; simp at cX1))
      go_ret2
      exact ⟨ret_sb HS.out hc.out.symm, hT3⟩
    · by_cases hbig : (p.size : Int) < keep
      · have HIN : Hid (inB keep 0 p.size = false) := by show _ = _; unfold inB; simp; omega
        have hc : Hid (crB d p n keep = false) := by show _ = _; unfold crB; rw [HV.out]; unfold inB; simp; omega
        have HS := Lib.hid (crash_no (torn := torn) hc.out)
        go_wp2_with (first | (go_at_call 42; refine (l1In_any _ _ _ _).mono ?_; rintro e w' ⟨rfl, rfl⟩; rw [HIN.out]) | (go_at_call 49; refine (l33Log_any d p n _ hs).mono ?_; rintro e w3 ⟨rfl, hb3⟩; rw [HV.out]; have hT3 := below_next hT hb3 rfl; replace BX := BX.next hb3; clear hb3; have cX1 := BX.cell 1; simp at cX1))
        go_ret2
        exact ⟨ret_sb HS.out hc.out.symm, hT3⟩
      · obtain ⟨q, rfl⟩ : ∃ q : Nat, keep = q := ⟨keep.toNat, by omega⟩
        have hq : q ≤ p.size := by omega
        have HIN : Hid (inB q 0 p.size = true) := by show _ = _; unfold inB; simp; omega
        have hc : Hid (crB d p n q = true) := by show _ = _; unfold crB; rw [HV.out]; unfold inB; simp; omega
        have HS : Hid (d ++ mk (tornL ((bs p).take q) torn) = crS d p n q torn) := by
          show _ = _
          unfold crS
          rw [hc.out, if_pos rfl, Int.toNat_natCast]
        have hq0 : (0 : Int) ≤ q := by omega
        have hq1 : (q : Int) ≤ p.size := by omega
        have hps : (p.extract 0 q).size = q := by
          have h1 := congrArg List.length (take_bs (p := p) (q := q))
          rw [List.length_take] at h1
          have h2 : (bs (p.extract 0 q)).length = (p.extract 0 q).size := rfl
          have h3 : (bs p).length = p.size := rfl
          omega
        have HPS := Lib.hid hps
        rcases torn with _ | _
        · have hl : Hid (tornL ((bs p).take q) false = (bs p).take q) := rfl
          have ka := cat d (mk ((bs p).take q)) (by have := size_mk ((bs p).take q); rw [List.length_take] at this; omega)
          go_wp2_with (first | (go_at_call 42; refine (l1In_any _ _ _ _).mono ?_; rintro e w' ⟨rfl, rfl⟩; rw [HIN.out]) | (go_at_call 49; refine (l33Log_any d p n _ hs).mono ?_; rintro e w3 ⟨rfl, hb3⟩; rw [HV.out]; have hT3 := below_next hT hb3 rfl; replace BX := BX.next hb3; clear hb3; have cX0 := BX.cell 0; have cX1 := BX.cell 1; simp at cX0 cX1; have hcv := Lib.run_convert_string_bytes (P := Tryd.prog) w3 9 53 5 (p.extract 0 q) (u := .string) Tryd.underlying9 Tryd.underlying53 Tryd.underlying5; have hT4 := below_next hT3 (below_bytes w3 5 (p.extract 0 q)) rfl; have cY0 := keepc (below_bytes w3 5 (p.extract 0 q)) cX0; have hbk := back_ w3 (Lib.bytesWorld w3 5 (p.extract 0 q)) q (grownCap w3 q 0 5) ((bs p).take q) (by rw [← take_bs]; exact HPS.out) (fun j b hj => bytes_cell w3 5 (p.extract 0 q) j b (by rw [take_bs]; exact hj))))
          go_ret2
          exact ⟨ret_sb (by rw [← HS.out, hl.out]) hc.out.symm, hT4⟩
        · by_cases hqp : 0 < q
          rotate_left
          · have hl : Hid (tornL ((bs p).take q) true = (bs p).take q) := by
              show _ = _
              unfold tornL
              rw [show q = 0 by omega]
              simp
            have hqn : ¬ (0 : Int) < (q : Int) := by omega
            have ka := cat d (mk ((bs p).take q)) (by have := size_mk ((bs p).take q); rw [List.length_take] at this; omega)
            go_wp2_with (first | (go_at_call 42; refine (l1In_any _ _ _ _).mono ?_; rintro e w' ⟨rfl, rfl⟩; rw [HIN.out]) | (go_at_call 49; refine (l33Log_any d p n _ hs).mono ?_; rintro e w3 ⟨rfl, hb3⟩; rw [HV.out]; have hT3 := below_next hT hb3 rfl; replace BX := BX.next hb3; clear hb3; have cX0 := BX.cell 0; have cX1 := BX.cell 1; simp at cX0 cX1; have hcv := Lib.run_convert_string_bytes (P := Tryd.prog) w3 9 53 5 (p.extract 0 q) (u := .string) Tryd.underlying9 Tryd.underlying53 Tryd.underlying5; have hT4 := below_next hT3 (below_bytes w3 5 (p.extract 0 q)) rfl; have cY0 := keepc (below_bytes w3 5 (p.extract 0 q)) cX0; have hbk := back_ w3 (Lib.bytesWorld w3 5 (p.extract 0 q)) q (grownCap w3 q 0 5) ((bs p).take q) (by rw [← take_bs]; exact HPS.out) (fun j b hj => bytes_cell w3 5 (p.extract 0 q) j b (by rw [take_bs]; exact hj))))
            go_ret2
            exact ⟨ret_sb (by rw [← HS.out, hl.out]) hc.out.symm, hT4⟩
          · obtain ⟨b, hbj⟩ : ∃ b, ((bs p).take q)[q - 1]? = some b := ⟨_, List.getElem?_eq_getElem (by rw [← take_bs]; have : (bs (p.extract 0 q)).length = (p.extract 0 q).size := rfl; omega)⟩
            have hln : ((bs p).take q).length = q := by rw [← take_bs]; exact HPS.out
            have hl : Hid (tornL ((bs p).take q) true = ((bs p).take q).set (q - 1) (UInt8.ofNat (255 - b.toNat))) := by
              show _ = _
              unfold tornL
              rw [hln, hbj]
              simp
              omega
            have HBJ := Lib.hid hbj
            clear hbj hln
            have ka := cat d (mk (((bs p).take q).set (q - 1) (UInt8.ofNat (255 - b.toNat)))) (by have := size_mk (((bs p).take q).set (q - 1) (UInt8.ofNat (255 - b.toNat))); rw [List.length_set, List.length_take] at this; omega)
            go_wp2_with (first | (go_at_call 42; refine (l1In_any _ _ _ _).mono ?_; rintro e w' ⟨rfl, rfl⟩; rw [HIN.out]) | (go_at_call 49; (refine (l33Log_any d p n _ hs).mono ?_; rintro e w3 ⟨rfl, hb3⟩; rw [HV.out]; have hT3 := below_next hT hb3 rfl; replace BX := BX.next hb3; clear hb3; have cX0 := BX.cell 0; have cX1 := BX.cell 1; simp at cX0 cX1; have hcv := Lib.run_convert_string_bytes (P := Tryd.prog) w3 9 53 5 (p.extract 0 q) (u := .string) Tryd.underlying9 Tryd.underlying53 Tryd.underlying5; have hT4 := below_next hT3 (below_bytes w3 5 (p.extract 0 q)) rfl; have cY0 := keepc (below_bytes w3 5 (p.extract 0 q)) cX0; have cB := bytes_cell w3 5 (p.extract 0 q) (q - 1) b (by rw [take_bs]; exact HBJ.out); have fB := bytes_frozen w3 5 (p.extract 0 q) (q - 1) (by rw [HPS.out]; omega); have hlt3 := BX.lt; have hT5 := Below.setCell hT4 (show w.heap.size ≤ (⟨w3.heap.size, q - 1, none⟩ : Addr).block from hT3.size) (.int .u8 ((255 - (b.toNat : Int)) % 256)); have cZ0 := (World.cell?_setCell_far (Lib.bytesWorld w3 5 (p.extract 0 q)) ⟨w3.heap.size, q - 1, none⟩ ⟨w.heap.size, 0, none⟩ (.int .u8 ((255 - (b.toNat : Int)) % 256)) (Nat.ne_of_gt hlt3)).trans cY0; have hbk := back_ w3 _ q (grownCap w3 q 0 5) (((bs p).take q).set (q - 1) (UInt8.ofNat (255 - b.toNat))) (by rw [List.length_set, ← take_bs]; exact HPS.out) (by rw [← take_bs]; exact torn_back w3 (p.extract 0 q) q b HPS.out (by rw [take_bs]; exact HBJ.out) hqp))))
            go_ret2
            exact ⟨ret_sb (by rw [← HS.out, hl.out]) hc.out.symm, hT5⟩

set_option maxHeartbeats 1000000 in
theorem lawCrashLog (d p : ByteArray) (n keep : Int) (torn : Bool) (w : World) (hd : d.size ≤ maxLen) (hp : p.size ≤ maxLen) (_l : -9223372036854775808 ≤ n) (_u : n ≤ 9223372036854775807) (hk0 : -9223372036854775808 ≤ keep) (hk1 : keep ≤ 9223372036854775807) (ht : Tab w) :
    Calls Tryd.prog 6 #[logV d p n, .int .i64 keep, .bool torn] w (Bl w (.bool true)) := by
  have hT0 := below_box w (.cells #[.string d, .string p, .int .i64 n] 36)
  have BX := Blk.new w 36 #[.string d, .string p, .int .i64 n]
  rcases h1 : decide (recSize d p 1048576 < 0) with _ | _
  · have h2 : ¬ recSize d p 1048576 < 0 := by simpa using h1
    have hsz := recSize_ok h2
    clear h1
    obtain ⟨v, HV⟩ : ∃ s, Hid (crB d p n keep = s) := ⟨_, rfl⟩
    obtain ⟨D, HD⟩ : ∃ s, Hid (crS d p n keep torn = s) := ⟨_, rfl⟩
    go_enter Tryd.func6, Tryd.ntmps6
    go_wp2_with fail
    refine (szLog_any d p n _ _ hd hp (by omega) (by omega)).mono ?_
    rintro e w1 ⟨rfl, hb1⟩
    have hT1 := below_next hT0 hb1 rfl
    replace BX := BX.next hb1
    have cN0 := BX.cell 0
    have cN1 := BX.cell 1
    have cN2 := BX.cell 2
    simp at cN0 cN1 cN2
    clear hb1
    go_wp2_with fail
    refine (toLog_any _ _ _ _).mono ?_
    rintro e w2 ⟨rfl, hb2⟩
    have hT2 := below_next hT1 hb2 rfl
    replace BX := BX.next hb2
    clear hb2 cN0 cN1 cN2
    go_wp2_with fail
    refine (specCrash_any _ _ _ _ _ _ (by omega) hk0 hk1).mono ?_
    rintro e w3 ⟨rfl, hb3⟩
    rw [HV.out, HD.out]
    have hT3 := below_next hT2 hb3 rfl
    replace BX := BX.next hb3
    have cN0 := BX.cell 0
    have cN1 := BX.cell 1
    have cN2 := BX.cell 2
    simp at cN0 cN1 cN2
    clear hb3
    go_wp2_with fail
    refine (toLog_any _ _ _ _).mono ?_
    rintro e w5 ⟨rfl, hb5⟩
    have hT5 := below_next hT3 hb5 rfl
    clear hb5 cN0 cN1 cN2 BX
    go_wp2_with fail
    refine (implCrash_any _ _ _ _ _ _ (by omega) hk0 hk1 (ht.next hT5)).mono ?_
    rintro e w6 ⟨rfl, hb6⟩
    rw [HV.out, HD.out]
    have hT6 := below_next hT5 hb6 rfl
    clear hb6
    rcases v with _ | _
    all_goals
      go_wp2_with fail
      go_ret
      exact ⟨rfl, hT6⟩
  · have h2 : recSize d p 1048576 < 0 := by simpa using h1
    go_enter Tryd.func6, Tryd.ntmps6
    go_wp2_with fail
    refine (szLog_any d p n _ _ hd hp (by omega) (by omega)).mono ?_
    rintro e w1 ⟨rfl, hb1⟩
    have hT1 := below_next hT0 hb1 rfl
    go_wp2_with fail
    go_ret
    exact ⟨rfl, hT1⟩
end Go.Proofs.YteogfjddkaodkaaDoor
