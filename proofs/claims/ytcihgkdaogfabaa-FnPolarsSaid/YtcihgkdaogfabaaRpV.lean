
/- Walks: RowPolar and ColumnPolar of the program and of the reference. -/
import Derived.Test.YtcihgkdaogfabaaRpW
namespace Go.Proofs.Ytcihgkdaogfabaa
open Go.RowKit

def rpOk (F : List (List Bool)) (R : List Int) : Bool := ctxB F && setB (F.length : Int) R
def rpRes (F : List (List Bool)) (R : List Int) : List Int := if rpOk F R then rpTo F R (colN F) else []
def cpOk (F : List (List Bool)) (S : List Int) : Bool := ctxB F && setB (colN F : Int) S
def cpRes (F : List (List Bool)) (S : List Int) : List Int := if cpOk F S then polTo F S F.length else []
theorem rp_no1 {F : List (List Bool)} {R : List Int} (h : ctxB F = false) : rpOk F R = false := by unfold rpOk; rw [h]; rfl
theorem rp_no2 {F : List (List Bool)} {R : List Int} {n : Nat} (hn : F.length = n) (h : setB (n : Int) R = false) : rpOk F R = false := by unfold rpOk; rw [hn, h, Bool.and_false]
theorem rp_ok {F : List (List Bool)} {R : List Int} {n : Nat} (hn : F.length = n) (h : ctxB F = true) (h2 : setB (n : Int) R = true) : rpOk F R = true := by unfold rpOk; rw [hn, h, h2]; rfl
theorem cp_no1 {F : List (List Bool)} {R : List Int} (h : ctxB F = false) : cpOk F R = false := by unfold cpOk; rw [h]; rfl
theorem cp_no2 {F : List (List Bool)} {R : List Int} {n : Nat} (hn : colN F = n) (h : setB (n : Int) R = false) : cpOk F R = false := by unfold cpOk; rw [hn, h, Bool.and_false]
theorem cp_ok {F : List (List Bool)} {R : List Int} {n : Nat} (hn : colN F = n) (h : ctxB F = true) (h2 : setB (n : Int) R = true) : cpOk F R = true := by unfold cpOk; rw [hn, h, h2]; rfl
set_option maxHeartbeats 4000000 in
theorem implRP_any (A B : Option Addr) (n c m d : Nat) (F : List (List Bool)) (R : List Int) (w : World) (h : RdL (RV RB) w A n F) (h' : RdL RI w B m R) :
    Calls Try.prog 7 #[.slice A n c, .slice B m d] w (OwnB w (rpRes F R) (rpOk F R)) := by
  have hle := h.le
  have HLN := Lib.hid h.len
  obtain ⟨w0, hw0, T0, hsz0, BP⟩ := boxes1c w #[.slice A n c] 24
  have HW0 := Lib.hid hw0
  have cP := BP.cell 0
  simp at cP
  have h0 := h.next (stab_RV stab_RB) T0
  have h0' := h'.next stab_RI T0
  have HIC := Lib.hid (isContext_any A n c F w0 h0)
  obtain ⟨r, HR⟩ : ∃ r, Hid (ctxB F = r) := ⟨_, rfl⟩
  rw [HR.out] at HIC
  clear hw0 hsz0
  rcases r with _ | _
  · have HO := Lib.hid (rp_no1 (R := R) HR.out)
    go_enter Try.func7, Try.ntmps7
    go_wp2_with fail
    rw [← HW0.out]
    refine HIC.out.mono ?_
    rintro e w1 ⟨rfl, rfl⟩
    go_wp2_with fail
    go_ret2
    exact ⟨_, 0, 0, by rw [HO.out]; rfl, by unfold rpRes; rw [HO.out]; exact own_lit0 T0, below_next T0 (below_box _ _) rfl⟩
  · obtain ⟨hn6', hc6, hF⟩ := ctx_parts HR.out
    obtain ⟨r2, HR2⟩ : ∃ r, Hid (setB (n : Int) R = r) := ⟨_, rfl⟩
    have HIS := Lib.hid (isSetOf_any B m d R (n : Int) w0 h0')
    rw [HR2.out] at HIS
    rcases r2 with _ | _
    · have HO := Lib.hid (rp_no2 HLN.out HR2.out)
      go_enter Try.func7, Try.ntmps7
      go_wp2_with fail
      rw [← HW0.out]
      refine HIC.out.mono ?_
      rintro e w1 ⟨rfl, rfl⟩
      go_wp2_with fail
      refine HIS.out.mono ?_
      rintro e w1 ⟨rfl, z, rfl⟩
      have T1 := below_drewN T0 z
      go_wp2_with fail
      go_ret2
      exact ⟨_, 0, 0, by rw [HO.out]; rfl, by unfold rpRes; rw [HO.out]; exact own_lit0 T1, below_next T1 (below_box _ _) rfl⟩
    · have HO := Lib.hid (rp_ok HLN.out HR.out HR2.out)
      have hset := (setB_iff.1 HR2.out).2
      go_enter Try.func7, Try.ntmps7
      go_wp2_with fail
      rw [← HW0.out]
      refine HIC.out.mono ?_
      rintro e w1 ⟨rfl, rfl⟩
      go_wp2_with fail
      refine HIS.out.mono ?_
      rintro e w1 ⟨rfl, z, rfl⟩
      have T1 := below_drewN T0 z
      have h1 := h0.drewN (stab_RV stab_RB) z
      have h1' := h0'.drewN stab_RI z
      have cP1 : (w0.drewN z).cell? ⟨w.heap.size, 0, none⟩ = some (.slice A n c) := cP
      have HCO := Lib.hid (columnsOf_any A n c F (w0.drewN z) h1)
      have HPR := Lib.hid (polarR_any A B n (colN F) c m d w.heap.size F R (w0.drewN z) h1 h1' hF rfl hset (by omega) cP1)
      obtain ⟨w2, HW2⟩ : ∃ w2, w2 = w0.drewN z := ⟨_, rfl⟩
      rw [← HW2] at T1 HCO HPR cP1 ⊢
      clear HW2 h1 h1'
      go_wp2_with fail
      refine HCO.out.mono ?_
      rintro e w3 ⟨rfl, rfl⟩
      go_wp2_with fail
      refine HPR.out.mono ?_
      rintro e w4 ⟨A4, n4, c4, rfl, how, hb4⟩
      go_wp2_with fail
      go_ret2
      exact ⟨A4, n4, c4, by rw [HO.out]; rfl, by unfold rpRes; rw [HO.out, if_pos rfl]; exact own_mono how T1.size, below_next T1 hb4 rfl⟩
set_option maxHeartbeats 4000000 in
theorem specRP_any (A B : Option Addr) (n c m d : Nat) (F : List (List Bool)) (R : List Int) (w : World) (h : RdL (RV RB) w A n F) (h' : RdL RI w B m R) :
    Calls Try.prog 8 #[.slice A n c, .slice B m d] w (OwnB w (rpRes F R) (rpOk F R)) := by
  have hle := h.le
  have HLN := Lib.hid h.len
  have HIC := Lib.hid (l30Context_any A n c F w h)
  obtain ⟨r, HR⟩ : ∃ r, Hid (ctxB F = r) := ⟨_, rfl⟩
  rw [HR.out] at HIC
  rcases r with _ | _
  · have HO := Lib.hid (rp_no1 (R := R) HR.out)
    go_enter Try.func8, Try.ntmps8
    go_wp2_with fail
    refine HIC.out.mono ?_
    rintro e w1 ⟨rfl, z, rfl⟩
    have T1 := below_drewN (Below.refl w.heap.size w) z
    go_wp2_with fail
    go_ret2
    exact ⟨_, 0, 0, by rw [HO.out]; rfl, by unfold rpRes; rw [HO.out]; exact own_lit0 T1, below_next T1 (below_box _ _) rfl⟩
  · obtain ⟨hn6', hc6, hF⟩ := ctx_parts HR.out
    have hn6 : n ≤ 6 := by have := HLN.out; omega
    obtain ⟨r2, HR2⟩ : ∃ r, Hid (setB (n : Int) R = r) := ⟨_, rfl⟩
    rcases r2 with _ | _
    · have HO := Lib.hid (rp_no2 HLN.out HR2.out)
      go_enter Try.func8, Try.ntmps8
      go_wp2_with fail
      refine HIC.out.mono ?_
      rintro e w1 ⟨rfl, z, rfl⟩
      go_wp2_with fail
      refine (l30Set_any B m d R (n : Int) _ (h'.drewN stab_RI z) (by omega) (by omega)).mono ?_
      rintro e w1 ⟨rfl, z2, rfl⟩
      rw [HR2.out]
      have T1 := below_drewN (Below.refl w.heap.size w) (z + z2)
      go_wp2_with fail
      go_ret2
      exact ⟨_, 0, 0, by rw [HO.out]; rfl, by unfold rpRes; rw [HO.out]; exact own_lit0 T1, below_next T1 (below_box _ _) rfl⟩
    · have HO := Lib.hid (rp_ok HLN.out HR.out HR2.out)
      have hset := (setB_iff.1 HR2.out).2
      go_enter Try.func8, Try.ntmps8
      go_wp2_with fail
      refine HIC.out.mono ?_
      rintro e w1 ⟨rfl, z, rfl⟩
      go_wp2_with fail
      refine (l30Set_any B m d R (n : Int) _ (h'.drewN stab_RI z) (by omega) (by omega)).mono ?_
      rintro e w1 ⟨rfl, z2, rfl⟩
      rw [HR2.out]
      have T1 := below_drewN (Below.refl w.heap.size w) (z + z2)
      have HPR := Lib.hid (l30Row_any A B n (colN F) c m d F R (w.drewN (z + z2)) (h.drewN (stab_RV stab_RB) (z + z2)) (h'.drewN stab_RI (z + z2)) hF rfl hset (by omega))
      go_wp2_with fail
      refine HPR.out.mono ?_
      rintro e w4 ⟨A4, n4, c4, rfl, how, hb4⟩
      go_wp2_with fail
      go_ret2
      exact ⟨A4, n4, c4, by rw [HO.out]; rfl, by unfold rpRes; rw [HO.out, if_pos rfl]; exact own_mono how T1.size, below_next T1 hb4 rfl⟩
set_option maxHeartbeats 4000000 in
theorem implCP_any (A B : Option Addr) (n c m d : Nat) (F : List (List Bool)) (S : List Int) (w : World) (h : RdL (RV RB) w A n F) (h' : RdL RI w B m S) :
    Calls Try.prog 10 #[.slice A n c, .slice B m d] w (OwnB w (cpRes F S) (cpOk F S)) := by
  have hle := h.le
  have HLN := Lib.hid h.len
  have HIC := Lib.hid (isContext_any A n c F w h)
  obtain ⟨r, HR⟩ : ∃ r, Hid (ctxB F = r) := ⟨_, rfl⟩
  rw [HR.out] at HIC
  rcases r with _ | _
  · have HO := Lib.hid (cp_no1 (R := S) HR.out)
    go_enter Try.func10, Try.ntmps10
    go_wp2_with fail
    refine HIC.out.mono ?_
    rintro e w1 ⟨rfl, rfl⟩
    go_wp2_with fail
    go_ret2
    exact ⟨_, 0, 0, by rw [HO.out]; rfl, by unfold cpRes; rw [HO.out]; exact own_lit0 (Below.refl _ _), below_box _ _⟩
  · obtain ⟨hn6', hc6, hF⟩ := ctx_parts HR.out
    have HCO := Lib.hid (columnsOf_any A n c F w h)
    obtain ⟨cn, HCN⟩ : ∃ cn, Hid (colN F = cn) := ⟨_, rfl⟩
    rw [HCN.out] at HCO
    obtain ⟨r2, HR2⟩ : ∃ r, Hid (setB (cn : Int) S = r) := ⟨_, rfl⟩
    have HIS := Lib.hid (isSetOf_any B m d S (cn : Int) w h')
    rw [HR2.out] at HIS
    rcases r2 with _ | _
    · have HO := Lib.hid (cp_no2 HCN.out HR2.out)
      go_enter Try.func10, Try.ntmps10
      go_wp2_with fail
      refine HIC.out.mono ?_
      rintro e w1 ⟨rfl, rfl⟩
      go_wp2_with fail
      refine HCO.out.mono ?_
      rintro e w1 ⟨rfl, rfl⟩
      go_wp2_with fail
      refine HIS.out.mono ?_
      rintro e w1 ⟨rfl, z, rfl⟩
      have T1 := below_drewN (Below.refl w.heap.size w) z
      go_wp2_with fail
      go_ret2
      exact ⟨_, 0, 0, by rw [HO.out]; rfl, by unfold cpRes; rw [HO.out]; exact own_lit0 T1, below_next T1 (below_box _ _) rfl⟩
    · have HO := Lib.hid (cp_ok HCN.out HR.out HR2.out)
      have hset := (setB_iff.1 HR2.out).2
      go_enter Try.func10, Try.ntmps10
      go_wp2_with fail
      refine HIC.out.mono ?_
      rintro e w1 ⟨rfl, rfl⟩
      go_wp2_with fail
      refine HCO.out.mono ?_
      rintro e w1 ⟨rfl, rfl⟩
      go_wp2_with fail
      refine HIS.out.mono ?_
      rintro e w1 ⟨rfl, z, rfl⟩
      have T1 := below_drewN (Below.refl w.heap.size w) z
      have HPR := Lib.hid (columnPolar_any A B n c m d F S (w.drewN z) (h.drewN (stab_RV stab_RB) z) (h'.drewN stab_RI z) hF (by rw [HCN.out]; exact hset) (by have := HLN.out; omega))
      go_wp2_with fail
      refine HPR.out.mono ?_
      rintro e w4 ⟨A4, n4, c4, rfl, how, hb4⟩
      go_wp2_with fail
      go_ret2
      exact ⟨A4, n4, c4, by rw [HO.out]; rfl, by unfold cpRes; rw [HO.out, if_pos rfl, HLN.out]; exact own_mono how T1.size, below_next T1 hb4 rfl⟩
set_option maxHeartbeats 4000000 in
theorem specCP_any (A B : Option Addr) (n c m d : Nat) (F : List (List Bool)) (S : List Int) (w : World) (h : RdL (RV RB) w A n F) (h' : RdL RI w B m S) :
    Calls Try.prog 18 #[.slice A n c, .slice B m d] w (OwnB w (cpRes F S) (cpOk F S)) := by
  have hle := h.le
  have HLN := Lib.hid h.len
  have HIC := Lib.hid (l30Context_any A n c F w h)
  obtain ⟨r, HR⟩ : ∃ r, Hid (ctxB F = r) := ⟨_, rfl⟩
  rw [HR.out] at HIC
  rcases r with _ | _
  · have HO := Lib.hid (cp_no1 (R := S) HR.out)
    go_enter Try.func18, Try.ntmps18
    go_wp2_with fail
    refine HIC.out.mono ?_
    rintro e w1 ⟨rfl, z, rfl⟩
    have T1 := below_drewN (Below.refl w.heap.size w) z
    go_wp2_with fail
    go_ret2
    exact ⟨_, 0, 0, by rw [HO.out]; rfl, by unfold cpRes; rw [HO.out]; exact own_lit0 T1, below_next T1 (below_box _ _) rfl⟩
  · obtain ⟨hn6', hc6, hF⟩ := ctx_parts HR.out
    obtain ⟨cn, HCN⟩ : ∃ cn, Hid (colN F = cn) := ⟨_, rfl⟩
    rw [HCN.out] at hc6
    obtain ⟨r2, HR2⟩ : ∃ r, Hid (setB (cn : Int) S = r) := ⟨_, rfl⟩
    have hset : r2 = true → ∀ x ∈ S, 0 ≤ x ∧ x < (colN F : Int) := fun e => by rw [HCN.out]; exact (setB_iff.1 (HR2.out.trans e)).2
    have HO1 : Hid (cpOk F S = r2) := by
      show _ = _
      cases r2 with
      | false => exact cp_no2 HCN.out HR2.out
      | true => exact cp_ok HCN.out HR.out HR2.out
    go_enter Try.func18, Try.ntmps18
    go_wp2_with fail
    refine HIC.out.mono ?_
    rintro e w1 ⟨rfl, z, rfl⟩
    have HCO := Lib.hid (l30Columns_any A n c F (w.drewN z) (h.drewN (stab_RV stab_RB) z))
    rw [HCN.out] at HCO
    go_wp2_with fail
    refine HCO.out.mono ?_
    rintro e w1 ⟨rfl, rfl⟩
    go_wp2_with fail
    refine (l30Set_any B m d S (cn : Int) _ (h'.drewN stab_RI z) (by omega) (by omega)).mono ?_
    rintro e w1 ⟨rfl, z2, rfl⟩
    rw [HR2.out]
    have T1 := below_drewN (Below.refl w.heap.size w) (z + z2)
    rcases r2 with _ | _
    · go_wp2_with fail
      go_ret2
      exact ⟨_, 0, 0, by rw [HO1.out]; rfl, by unfold cpRes; rw [HO1.out]; exact own_lit0 T1, below_next T1 (below_box _ _) rfl⟩
    · have HPR := Lib.hid (l30Column_any A B n c m d F S (w.drewN (z + z2)) (h.drewN (stab_RV stab_RB) (z + z2)) (h'.drewN stab_RI (z + z2)) hF (hset rfl) (by have := HLN.out; omega))
      go_wp2_with fail
      refine HPR.out.mono ?_
      rintro e w4 ⟨A4, n4, c4, rfl, how, hb4⟩
      go_wp2_with fail
      go_ret2
      exact ⟨A4, n4, c4, by rw [HO1.out]; rfl, by unfold cpRes; rw [HO1.out, if_pos rfl, HLN.out]; exact own_mono how T1.size, below_next T1 hb4 rfl⟩
end Go.Proofs.Ytcihgkdaogfabaa
