
/- Walks: l2Perm, l23From (the reference's posets from pairs). -/
import Derived.Test.YtlncpabnlnipoaaNames2
import Derived.Test.YtlncpabnlnipoaaSysPos
import Derived.StillTailTactics
import Derived.BigRegion
namespace Go.Proofs.Ytlncpabnlnipoaa
open Go.RowKit

def PermD (w : World) (m n : Nat) (L : List Int) (e : Ending) (w' : World) : Prop := ∃ b : Bool, e = .returned (.bool b) ∧ (b = true → m = n ∧ ∀ x ∈ L, 0 ≤ x ∧ x < (n : Int)) ∧ Below w.heap.size w w'
set_option maxHeartbeats 1000000 in
theorem l2Perm_any (A : Option Addr) (m c n : Nat) (L : List Int) (w : World) (h : RdL RI w A m L) (hn : n ≤ 1048576) :
    Calls Try.prog 47 #[.slice A m c, .int .i64 n] w (PermD w m n L) := by
  have hle := h.le
  by_cases hmn : m = n
  · subst hmn
    have hq : ((m : Int) != (m : Int)) = false := by simp
    obtain ⟨el, HEL⟩ : ∃ b, Hid (allIn 0 ((m : Int) - 1) L = b) := ⟨_, rfl⟩
    have HE := Lib.hid (l2Elements_any A m c L m w h (by omega) (by omega))
    rw [HEL.out] at HE
    rcases el with _ | _
    · go_enter Try.func47, Try.ntmps47
      go_wp2_with fail
      refine HE.out.mono ?_
      rintro e w' ⟨rfl, rfl⟩
      go_wp2_with fail
      go_ret
      exact ⟨false, rfl, (fun h => by cases h), Below.refl _ _⟩
    · have HIN : Hid (∀ x ∈ L, 0 ≤ x ∧ x < (m : Int)) := fun x hx => by have := allIn_iff.1 HEL.out x hx; omega
      go_enter Try.func47, Try.ntmps47
      go_wp2_with fail
      refine HE.out.mono ?_
      rintro e w' ⟨rfl, rfl⟩
      obtain ⟨wo, HWO⟩ : ∃ wo : World, wo = w := ⟨_, rfl⟩
      subst HWO
      go_wp2_with (at_make; refine make_bools _ rfl _ _ rfl m rfl rfl hn ?_; intro w1 hown hg1)
      have hb1 := (Below.refl wo.heap.size wo).grown hg1 (Nat.le_refl _) (by simp)
      clear hg1
      go_loopw [6] (fun i wr => ∃ (k : Nat) (R : List Value), k ≤ m ∧ i = .int .i64 k ∧ wr.ownsRow wo.heap.size 4 1 (.slice (some ⟨wo.heap.size, 0, none⟩) m m) m R ∧ (∀ v ∈ R, ∃ b, v = .bool b) ∧ Below wo.heap.size wo wr) (fun i _ => m - (intOf i).toNat)
      case atStart => exact ⟨0, _, Nat.zero_le _, rfl, hown, fun v hv => ⟨false, List.eq_of_mem_replicate hv⟩, hb1⟩
      case round =>
        clear hown hb1
        obtain ⟨k, R, hk, rfl, hown, hR, hb⟩ := hrel
        by_cases hlt : k < m
        · have hk0 : (0 : Int) ≤ (k : Int) := by omega
          have hk1 : (k : Int) < (m : Int) := by omega
          obtain ⟨b, o, v, x, rfl, hcx, ⟨rfl, -, -⟩, -, hx⟩ := (h.next stab_RI hb).at hlt
          have hxm := HIN.out x (List.mem_of_getElem? hx)
          obtain ⟨y, rfl⟩ := Int.eq_ofNat_of_zero_le hxm.1
          have hy0 : (0 : Int) ≤ (y : Int) := by omega
          have hy1 : (y : Int) < (m : Int) := by omega
          have hlR : R.length = m := by have := hown.1; omega
          obtain ⟨bv, hbv⟩ := hR (R[y]'(by omega)) (List.getElem_mem _)
          have hcl : wr.cell? ⟨wo.heap.size, y, none⟩ = some (.bool bv) := (hown.cellAt y (by omega)).trans ((List.getElem?_eq_getElem (by omega)).trans (by rw [hbv]))
          have hfz := hown.frozenAt y
          obtain ⟨hst, -⟩ := hown.stored y (.bool true)
          have HST := Lib.hid hst
          have HR := Lib.hid hR
          have hb2 := hb.setCell (p := ⟨wo.heap.size, y, none⟩) (Nat.le_refl _) (.bool true)
          clear hx hown hst hR hbv hxm
          rcases bv with _ | _
          · go_wp2_with fail
            go_roundw
            case rel => exact ⟨k + 1, _, by omega, by go_num, HST.out, fun v hv => by
              rcases List.mem_or_eq_of_mem_set hv with hv | rfl
              · exact HR.out v hv
              · exact ⟨true, rfl⟩, hb2⟩
            case measure => simp [intOf]; omega
          · go_wp2_with fail
            go_ret
            exact ⟨false, rfl, (fun h => by cases h), hb⟩
        · have hk1 : ¬ (k : Int) < (m : Int) := by omega
          go_wp2_with fail
          go_ret
          exact ⟨true, rfl, fun _ => ⟨rfl, HIN.out⟩, hb⟩
  · have hq : ((m : Int) != (n : Int)) = true := by simp; omega
    go_enter Try.func47, Try.ntmps47
    go_wp2_with fail
    go_ret
    exact ⟨false, rfl, (fun h => by cases h), Below.refl _ _⟩
/-- A square of truths of the call's own, whatever they are. -/
def BMat (lo : Nat) (w : World) (g n c : Nat) : Prop := ∃ R : List (List Bool), OwM 64 4 Value.bool lo w (.slice (some ⟨g, 0, none⟩) n c) n R ∧ (∀ row ∈ R, row.length = n) ∧ ∀ (i : Nat) row, R[i]? = some row → row[i]? = some true
theorem BMat.next {lo : Nat} {w w' : World} {g n c : Nat} (h : BMat lo w g n c) (hb : Below w.heap.size w w') : BMat lo w' g n c := by
  obtain ⟨R, h1, h2⟩ := h
  exact ⟨R, h1.next hb, h2⟩
theorem BMat.get {lo : Nat} {w : World} {g n c : Nat} (h : BMat lo w g n c) {i : Nat} (hi : i < n) :
    ∃ r d, w.cell? ⟨g, i, none⟩ = some (.slice (some ⟨r, 0, none⟩) n d) ∧ lo ≤ r ∧ r < w.heap.size ∧ (∀ k, k < n → ∃ b, w.cell? ⟨r, k, none⟩ = some (.bool b) ∧ w.frozen? ⟨r, k, none⟩ = false ∧ (k = i → b = true)) ∧
      ∀ k b, k < n → (k = i → b = true) → BMat lo (w.setCell ⟨r, k, none⟩ (.bool b)) g n c := by
  obtain ⟨R, ⟨vs, hv⟩, hR, hD⟩ := h
  have hvl : vs.length = n := by have := hv.1.1; omega
  have hRl : R.length = n := by rw [← hv.2.1]; exact hvl
  have hvi : vs[i]? = some (vs[i]'(by omega)) := List.getElem?_eq_getElem (by omega)
  have hRi : R[i]? = some (R[i]'(by omega)) := List.getElem?_eq_getElem (by omega)
  have hlen := hR _ (List.getElem_mem (l := R) (n := i) (by omega))
  have hrow := hv.2.2.1 i _ _ hvi hRi
  have hdi := hD i _ hRi
  generalize R[i]'(by omega) = row at hRi hlen hrow hdi
  rw [hlen] at hrow
  obtain ⟨B, d, hB⟩ := own_slice hrow
  rw [hB] at hrow
  obtain ⟨r, rfl, hlo⟩ : ∃ r, B = some ⟨r, 0, none⟩ ∧ lo ≤ r := by
    rcases hrow.2 with ⟨_, h0⟩ | ⟨r, cap, cur, e, hb, _⟩
    · omega
    · injection e with e1 e2 e3
      exact ⟨r, e1, hb⟩
  have hcell : w.cell? ⟨g, i, none⟩ = some (.slice (some ⟨r, 0, none⟩) n d) := by rw [hv.1.cellAt i (by omega), hvi, hB]
  refine ⟨r, d, hcell, hlo, (hrow.lt r rfl).2, fun k hk => ⟨row[k]'(by omega), ?_, hrow.frozenAt k, fun e => ?_⟩, fun k b hk hkb => ?_⟩
  · rw [hrow.cellAt k (by omega), List.getElem?_map, List.getElem?_eq_getElem (by omega)]
    rfl
  · subst e
    rw [List.getElem?_eq_getElem (by omega)] at hdi
    injection hdi
  · obtain ⟨hst, hgr⟩ := hrow.stored k (.bool b)
    have e : (row.map Value.bool).set k (.bool b) = (row.set k b).map Value.bool := by rw [List.map_set]
    have hst' : (w.setCell ⟨r, k, none⟩ (.bool b)).ownsRow lo 4 1 vs[i] (row.set k b).length ((row.set k b).map Value.bool) := by
      rw [hB, ← e, List.length_set, hlen]
      exact hst
    have h2 : OwMv 64 4 Value.bool lo w (.slice (some ⟨g, 0, none⟩) n c) n vs R := hv
    have h3 := h2.setRow (by decide) hvi (by rw [hB]; exact hgr) hst'
    refine ⟨_, ⟨vs, h3⟩, fun q hq => ?_, fun j q hq => ?_⟩
    · rcases List.mem_or_eq_of_mem_set hq with hq | rfl
      · exact hR q hq
      · rw [List.length_set]; exact hlen
    · by_cases hj : j = i
      · subst hj
        rw [List.getElem?_set_self (by omega)] at hq
        injection hq with hq
        subst hq
        by_cases hk2 : k = j
        · subst hk2
          rw [List.getElem?_set_self (by omega), hkb rfl]
        · rw [List.getElem?_set_ne hk2]; exact hdi
      · rw [List.getElem?_set_ne (fun e => hj e.symm)] at hq
        exact hD j q hq
theorem keepP {w w' : World} (h : Below w.heap.size w w') {b k : Nat} {v : Value} (hc : w.cell? ⟨b, k, none⟩ = some v) : w'.cell? ⟨b, k, none⟩ = some v := (World.cell?_of_block (w := w) (h.block b (cell_lt hc))).trans hc
/-- Pairs of numbers below n. -/
def RdPr (n : Nat) (w : World) (A : Option Addr) (m : Nat) : Prop := m ≤ 1048576 ∧ (0 < m → ∃ b, A = some ⟨b, 0, none⟩ ∧ ∀ i, i < m → ∃ x y : Nat, x < n ∧ y < n ∧ w.cell? ⟨b, i * 2, none⟩ = some (.int .i64 x) ∧ w.cell? ⟨b, i * 2 + 1, none⟩ = some (.int .i64 y))
theorem RdPr.next {n : Nat} {w w' : World} {A : Option Addr} {m : Nat} (h : RdPr n w A m) (hb : Below w.heap.size w w') : RdPr n w' A m :=
  ⟨h.1, fun h0 => by
    obtain ⟨b, e, hc⟩ := h.2 h0
    refine ⟨b, e, fun i hi => ?_⟩
    obtain ⟨x, y, hx, hy, h1, h2⟩ := hc i hi
    exact ⟨x, y, hx, hy, keepP hb h1, keepP hb h2⟩⟩
/-- A poset of n elements of the call's own. -/
def PosD (n : Nat) (w : World) (e : Ending) (w' : World) : Prop := ∃ A c F, e = .returned (.agg #[.slice A n c]) ∧ OwM 27 3 (.int .i64) w.heap.size w' (.slice A n c) n F ∧ (∀ p ∈ F, (0 < p.length ∧ p.length ≤ n) ∧ ∀ x ∈ p, 0 ≤ x ∧ x < (n : Int)) ∧ Below w.heap.size w w'
set_option linter.unusedVariables false in
set_option maxRecDepth 20000 in
set_option maxHeartbeats 8000000 in
theorem l23From_any (n m c : Nat) (A : Option Addr) (w : World) (hP : RdPr n w A m) (hn : n ≤ 100) :
    Calls Try.prog 49 #[.int .i64 n, .slice A m c] w (PosD n w) := by
  obtain ⟨w0, HW0⟩ : ∃ wb, Hid (wb = w.alloc (.cells #[.slice none 0 0] 26)) := ⟨_, rfl⟩
  have hb0 : Below w.heap.size w w0 := by rw [HW0.out]; exact below_box _ _
  have B0 : Blk w0 w.heap.size 26 #[.slice none 0 0] := by rw [HW0.out]; exact Blk.new _ _ _
  have hs0 : w0.heap.size = w.heap.size + 1 := by rw [HW0.out]; simp
  obtain ⟨w1, HW1⟩ : ∃ wb, Hid (wb = w0.alloc (.cells #[] 64)) := ⟨_, rfl⟩
  have hb1 : Below w0.heap.size w0 w1 := by rw [HW1.out]; exact below_box _ _
  have hM1 : OwM 64 4 Value.bool w0.heap.size w1 (.slice (some ⟨w0.heap.size, 0, none⟩) 0 0) 0 [] := by rw [HW1.out]; exact ⟨[], World.ownsRow_lit _ _ _ (Nat.le_refl _) (Nat.zero_le _) rfl, rfl, fun k u xs hu => by simp at hu, by simp⟩
  rw [hs0] at hM1
  have hP0 := hP.next hb0
  go_enter Try.func49, Try.ntmps49
  go_wp2_with fail
  rw [← HW0.out, ← HW1.out]
  go_loopw [5, 6, 7] (fun v i _ wr => ∃ (k b d : Nat) (R : List (List Bool)), k ≤ n ∧ i = .int .i64 k ∧ v = .slice (some ⟨b, 0, none⟩) k d ∧ OwM 64 4 Value.bool (w.heap.size + 1) wr (.slice (some ⟨b, 0, none⟩) k d) k R ∧ ((∀ row ∈ R, row.length = n) ∧ ∀ (i : Nat) row, R[i]? = some row → row[i]? = some true) ∧ Below w0.heap.size w0 wr) (fun _ i _ _ => n - (intOf i).toNat)
  case atStart => exact ⟨0, _, 0, [], Nat.zero_le _, rfl, rfl, hM1, ⟨fun row hr => by simp at hr, fun i row hr => by simp at hr⟩, hb1⟩
  case round =>
    clear hM1 hb1
    obtain ⟨k, b, d, R, hk, rfl, rfl, hM, hR, hT⟩ := hrel
    have HR := Lib.hid hR
    have HRL : Hid (R.length = k) := by obtain ⟨vs, h1, h2, -⟩ := hM; have := h1.1; show R.length = k; omega
    clear hR
    by_cases hlt : k < n
    · have hk0 : (0 : Int) ≤ (k : Int) := by omega
      have hk1 : (k : Int) < (n : Int) := by omega
      have hzr := hT.size
      go_wp2_with (first
        | (at_make; refine make_bools _ rfl _ _ rfl n rfl rfl (by omega) ?_; intro w2 how2 hg2; have hb2 := (Below.refl wr.heap.size wr).grown hg2 (Nat.le_refl _) (by simp); have hcl2 : w2.cell? ⟨wr.heap.size, k, none⟩ = some (.bool false) := (how2.cellAt k (by omega)).trans (by rw [List.getElem?_replicate, if_pos hlt]); have hfz2 := how2.frozenAt k; have how3 := (how2.stored k (.bool true)).1; have hb3 := hb2.setCell (p := ⟨wr.heap.size, k, none⟩) (Nat.le_refl _) (.bool true); obtain ⟨vs, hvs, HPU⟩ := hM.push (by decide) hb3 (by omega) (xs := (List.replicate n false).set k true) (by rw [List.length_set, List.length_replicate, List.map_set, List.map_replicate]; exact how3); have hT3 := below_next hT hb3 rfl; have hz3 := hT3.size; have hsz : (w2.setCell ⟨wr.heap.size, k, none⟩ (.bool true)).heap.size = w2.heap.size := by simp)
        | (at_builtin; refine app1 (w2.setCell ⟨wr.heap.size, k, none⟩ (.bool true)) rfl _ _ 57 64 rfl (.slice none 0 0) 24 Try.underlying57 info_bools rfl (by decide) (w.heap.size + 1) k d (some ⟨b, 0, none⟩) vs rfl hvs (.slice (some ⟨wr.heap.size, 0, none⟩) n n) rfl (by rw [hsz]; rfl) (by omega) (by omega) ?_; intro A4 c4 w4 hown4 hg4 hb4))
      have HF4 := Lib.hid (HPU hown4 hg4)
      obtain ⟨b4, hA4, -, -⟩ := own_form hown4 (by omega)
      subst hA4
      clear HPU hown4 hg4 hvs how3
      go_roundw
      case rel => exact ⟨k + 1, b4, c4, _, by omega, by go_num, rfl, HF4.out, ⟨fun row hr => by
        rcases List.mem_append.1 hr with hr | hr
        · exact HR.out.1 row hr
        · rw [List.mem_singleton.1 hr, List.length_set, List.length_replicate], fun i row hr => by
        rcases Nat.lt_or_ge i R.length with hi | hi
        · rw [List.getElem?_append_left hi] at hr
          exact HR.out.2 i row hr
        · rw [List.getElem?_append_right hi] at hr
          have hi2 := (List.getElem?_eq_some_iff.1 hr).1
          simp at hi2
          have hil : i = k := by rw [HRL.out] at hi hi2; omega
          subst hil
          rw [HRL.out, Nat.sub_self] at hr
          simp at hr
          rw [← hr, List.getElem?_set_self (by rw [List.length_replicate]; exact hlt)]⟩, hT3.trans (hb4.mono (by omega))⟩
      case measure => simp [intOf]; omega
    · obtain rfl : n = k := by omega
      have hk1 : ¬ (n : Int) < (n : Int) := by omega
      have hBM : BMat (w.heap.size + 1) wr b n d := ⟨R, hM, HR.out.1, HR.out.2⟩
      have hm := hP.1
      clear hM HR
      go_wp2_with fail
      go_loopw [8] (fun i wx => ∃ q : Nat, q ≤ m ∧ i = .int .i64 q ∧ BMat (w.heap.size + 1) wx b n d ∧ Below w0.heap.size w0 wx) (fun i _ => m - (intOf i).toNat)
      case atStart => exact ⟨0, Nat.zero_le _, rfl, hBM, hT⟩
      case round =>
        obtain ⟨wr1, HWR⟩ : ∃ w, Hid (w = wr) := ⟨_, rfl⟩
        clear hBM hT
        obtain ⟨q, hq, rfl, hBM, hT⟩ := hrel
        by_cases hlq : q < m
        · have hq0 : (0 : Int) ≤ (q : Int) := by omega
          have hq1 : (q : Int) < (m : Int) := by omega
          obtain ⟨pb, hA, hpr⟩ := (hP0.next hT).2 (by omega)
          subst hA
          obtain ⟨x, y, hx, hy, hcx, hcy⟩ := hpr q hlq
          obtain ⟨r, e, hcr, hlr, hrs, hrow, hset⟩ := hBM.get hx
          obtain ⟨bv, hcb, hfz, -⟩ := hrow y hy
          have HSET := Lib.hid (hset y true hy fun _ => rfl)
          have hx0 : (0 : Int) ≤ (x : Int) := by omega
          have hx1 : (x : Int) < (n : Int) := by omega
          have hy0 : (0 : Int) ≤ (y : Int) := by omega
          have hy1 : (y : Int) < (n : Int) := by omega
          have hT2 := Below.drew (hT.setCell (p := ⟨r, y, none⟩) (show w0.heap.size ≤ r by omega) (.bool true))
          clear hpr hrow hset hBM
          go_wp2_with fail
          go_region
          go_wp2_with fail
          go_roundw
          case rel => exact ⟨q + 1, by omega, by go_num, HSET.out.next (Below.drew (Below.refl _ _)), hT2⟩
          case measure => simp [intOf]; omega
        · obtain rfl : m = q := by omega
          have hq1 : ¬ (m : Int) < (m : Int) := by omega
          go_wp2_with fail
          go_loopw [9, 10, 11] (fun i _ _ wx => ∃ z : Nat, z ≤ n ∧ i = .int .i64 z ∧ BMat (w.heap.size + 1) wx b n d ∧ Below w0.heap.size w0 wx) (fun i _ _ _ => n - (intOf i).toNat)
          case atStart => exact ⟨0, Nat.zero_le _, rfl, hBM, hT⟩
          case round =>
            clear hBM hT
            obtain ⟨z, hz, rfl, hBM, hT⟩ := hrel
            by_cases hlz : z < n
            · have hz0 : (0 : Int) ≤ (z : Int) := by omega
              have hz1 : (z : Int) < (n : Int) := by omega
              go_wp2_with fail
              go_loopw [10, 11] (fun i _ wx => ∃ x : Nat, x ≤ n ∧ i = .int .i64 x ∧ BMat (w.heap.size + 1) wx b n d ∧ Below w0.heap.size w0 wx) (fun i _ _ => n - (intOf i).toNat)
              case atStart => exact ⟨0, Nat.zero_le _, rfl, hBM, hT⟩
              case round =>
                clear hBM hT
                obtain ⟨x, hx, rfl, hBM, hT⟩ := hrel
                by_cases hlx : x < n
                · have hx0 : (0 : Int) ≤ (x : Int) := by omega
                  have hx1 : (x : Int) < (n : Int) := by omega
                  go_wp2_with fail
                  go_loopw [11] (fun i wx => ∃ y : Nat, y ≤ n ∧ i = .int .i64 y ∧ BMat (w.heap.size + 1) wx b n d ∧ Below w0.heap.size w0 wx) (fun i _ => n - (intOf i).toNat)
                  case atStart => exact ⟨0, Nat.zero_le _, rfl, hBM, hT⟩
                  case round =>
                    clear hBM hT
                    obtain ⟨y, hy, rfl, hBM, hT⟩ := hrel
                    by_cases hly : y < n
                    · have hy0 : (0 : Int) ≤ (y : Int) := by omega
                      have hy1 : (y : Int) < (n : Int) := by omega
                      obtain ⟨rx, ex, hcx, hlx2, hrx, hrowx, hsetx⟩ := hBM.get hlx
                      obtain ⟨rz, ez, hcz, hlz2, hrz, hrowz, -⟩ := hBM.get hlz
                      obtain ⟨b1, hb1, hf1, hd1⟩ := hrowx y hly
                      obtain ⟨b2, hb2, -, -⟩ := hrowx z hlz
                      obtain ⟨b3, hb3, -, -⟩ := hrowz y hly
                      have HSET := Lib.hid (fun v (hv : y = x → v = true) => hsetx y v hly hv)
                      have HD1 := Lib.hid hd1
                      have HT2 := Lib.hid (fun v => Below.drew (hT.setCell (p := ⟨rx, y, none⟩) (show w0.heap.size ≤ rx by omega) (.bool v)))
                      clear hrowx hrowz hsetx hBM hd1
                      rcases b1 with _ | _
                      · rcases b2 with _ | _
                        · go_wp2_with fail
                          go_region
                          go_wp2_with fail
                          go_roundw
                          case rel => exact ⟨y + 1, by omega, by go_num, (HSET.out _ (by first | exact fun _ => rfl | exact fun e => absurd (HD1.out e) (by decide))).next (Below.drew (Below.refl _ _)), HT2.out _⟩
                          case measure => simp [intOf]; omega
                        · rcases b3 with _ | _
                          all_goals
                            go_wp2_with fail
                            go_region
                            go_wp2_with fail
                            go_roundw
                            case rel => exact ⟨y + 1, by omega, by go_num, (HSET.out _ (by first | exact fun _ => rfl | exact fun e => absurd (HD1.out e) (by decide))).next (Below.drew (Below.refl _ _)), HT2.out _⟩
                            case measure => simp [intOf]; omega
                      · go_wp2_with fail
                        go_region
                        go_wp2_with fail
                        go_roundw
                        case rel => exact ⟨y + 1, by omega, by go_num, (HSET.out _ (by first | exact fun _ => rfl | exact fun e => absurd (HD1.out e) (by decide))).next (Below.drew (Below.refl _ _)), HT2.out _⟩
                        case measure => simp [intOf]; omega
                    · obtain rfl : n = y := by omega
                      have hy1 : ¬ (n : Int) < (n : Int) := by omega
                      go_wp2_with fail
                      go_roundw
                      case rel => exact ⟨x + 1, by omega, by go_num, hBM, hT⟩
                      case measure => simp [intOf]; omega
                · obtain rfl : n = x := by omega
                  have hx1 : ¬ (n : Int) < (n : Int) := by omega
                  go_wp2_with fail
                  go_roundw
                  case rel => exact ⟨z + 1, by omega, by go_num, hBM, hT⟩
                  case measure => simp [intOf]; omega
            · obtain rfl : n = z := by omega
              have hz1 : ¬ (n : Int) < (n : Int) := by omega
              obtain ⟨wo, HWO⟩ : ∃ wo : World, wo = wr := ⟨_, rfl⟩
              subst HWO
              obtain ⟨w6, HW6⟩ : ∃ wb, Hid (wb = wo.alloc (.cells #[] 27)) := ⟨_, rfl⟩
              have hb6 : Below wo.heap.size wo w6 := by rw [HW6.out]; exact below_box _ _
              have hs6 : w6.heap.size = wo.heap.size + 1 := by rw [HW6.out]; simp
              have hM6 : OwM 27 3 (.int .i64) wo.heap.size w6 (.slice (some ⟨wo.heap.size, 0, none⟩) 0 0) 0 [] := by rw [HW6.out]; exact ⟨[], World.ownsRow_lit _ _ _ (Nat.le_refl _) (Nat.zero_le _) rfl, rfl, fun k u xs hu => by simp at hu, by simp⟩
              obtain ⟨w7, HW7⟩ : ∃ wb, Hid (wb = w6.alloc (.cells #[.slice (some ⟨wo.heap.size, 0, none⟩) 0 0] 26)) := ⟨_, rfl⟩
              have hb7 : Below w6.heap.size w6 w7 := by rw [HW7.out]; exact below_box _ _
              have B7 : Blk w7 (wo.heap.size + 1) 26 #[.slice (some ⟨wo.heap.size, 0, none⟩) 0 0] := by rw [HW7.out, ← hs6]; exact Blk.new _ _ _
              have hM7 := hM6.next hb7
              have hT7 := below_next hb6 hb7 rfl
              clear hM6 hb6 hb7
              go_wp2_with fail
              rw [← HW6.out, ← HW7.out]
              go_loopw [13, 14, 15] (fun i _ _ wx => ∃ (y : Nat) (A : Option Addr) (c : Nat) (F : List (List Int)), y ≤ n ∧ i = .int .i64 y ∧ Blk wx (wo.heap.size + 1) 26 #[.slice A y c] ∧ OwM 27 3 (.int .i64) wo.heap.size wx (.slice A y c) y F ∧ (∀ p ∈ F, (0 < p.length ∧ p.length ≤ n) ∧ ∀ x ∈ p, 0 ≤ x ∧ x < (n : Int)) ∧ Below wo.heap.size wo wx) (fun i _ _ _ => n - (intOf i).toNat)
              case atStart => exact ⟨0, _, 0, [], Nat.zero_le _, rfl, B7, hM7, fun p hp => by simp at hp, hT7⟩
              case round =>
                clear B7 hM7 hT7
                obtain ⟨y, A1, c1, F, hy, rfl, BP, hM, hF, hTy⟩ := hrel
                have HF := Lib.hid hF
                clear hF
                have hzy := hTy.size
                by_cases hly : y < n
                · have hy0 : (0 : Int) ≤ (y : Int) := by omega
                  have hy1 : (y : Int) < (n : Int) := by omega
                  obtain ⟨wy, HWY⟩ : ∃ wy : World, wy = wr := ⟨_, rfl⟩
                  subst HWY
                  have hbx := below_box wy (.cells #[] 3)
                  have hown0 : (wy.alloc (.cells #[] 3)).ownsRow wy.heap.size 3 1 (.slice (some ⟨wy.heap.size, 0, none⟩) 0 0) 0 (ints []) := World.ownsRow_lit wy #[] 0 (Nat.le_refl _) (Nat.zero_le _) rfl
                  go_wp2_with fail
                  go_loopw [14, 15] (fun v i wx => ∃ (q : Nat) (A2 : Option Addr) (c2 : Nat) (acc : List Int), q ≤ n ∧ i = .int .i64 q ∧ v = .slice A2 acc.length c2 ∧ (acc.length ≤ q ∧ (y < q → 0 < acc.length)) ∧ wx.ownsRow wy.heap.size 3 1 (.slice A2 acc.length c2) acc.length (ints acc) ∧ (∀ x ∈ acc, 0 ≤ x ∧ x < (n : Int)) ∧ Below wy.heap.size wy wx) (fun _ i _ => n - (intOf i).toNat)
                  case atStart => exact ⟨0, _, 0, [], Nat.zero_le _, rfl, rfl, ⟨Nat.le_refl _, fun h => absurd h (Nat.not_lt_zero _)⟩, hown0, fun x hx => by simp at hx, hbx⟩
                  case round =>
                    clear hown0 hbx
                    obtain ⟨q, A2, c2, acc, hq, rfl, rfl, ⟨haq, hyq⟩, hown, hacc, hTq⟩ := hrel
                    have HACC := Lib.hid hacc
                    have HYQ := Lib.hid hyq
                    clear hacc hyq
                    have hzq := hTq.size
                    by_cases hlq : q < n
                    · have hq0 : (0 : Int) ≤ (q : Int) := by omega
                      have hq1 : (q : Int) < (n : Int) := by omega
                      obtain ⟨rq, eq, hcq, -, -, hrowq, -⟩ := (hBM.next (below_next hTy hTq rfl)).get hlq
                      obtain ⟨b1, hb1, -, hd1⟩ := hrowq y hly
                      have HD1 := Lib.hid hd1
                      clear hrowq hd1
                      rcases b1 with _ | _
                      · go_wp2_with fail
                        go_roundw
                        case rel => exact ⟨q + 1, A2, c2, acc, by omega, by go_num, rfl, ⟨by omega, fun h => HYQ.out (by have : ¬ y = q := fun e => absurd (HD1.out e) (by decide); omega)⟩, hown, HACC.out, hTq⟩
                        case measure => simp [intOf]; omega
                      · go_wp2_with (at_builtin; refine app1 wr rfl _ _ 27 3 rfl (.int .i64 0) 8 Try.underlying27 info_int rfl (by decide) wy.heap.size acc.length c2 A2 (ints acc) rfl hown (.int .i64 q) rfl rfl (by omega) hzq ?_; intro A3 c3 w8 hown3 hg3 hb3)
                        go_roundw
                        case rel => exact ⟨q + 1, A3, c3, acc ++ [(q : Int)], by omega, by go_num, by rw [List.length_append]; rfl, ⟨by simp; omega, fun _ => by simp⟩, by rw [List.length_append, ← ints_snocG]; exact hown3, fun x hx => by
                          rcases List.mem_append.1 hx with hx | hx
                          · exact HACC.out x hx
                          · rw [List.mem_singleton.1 hx]; omega, hTq.trans hb3⟩
                        case measure => simp [intOf]; omega
                    · obtain rfl : n = q := by omega
                      have hq1 : ¬ (n : Int) < (n : Int) := by omega
                      obtain ⟨vs, hvs, HPU⟩ := hM.push (by decide) hTq hzy (xs := acc) hown
                      have hT2 := below_next hTy hTq rfl
                      have hz2 := hT2.size
                      have BP2 := BP.next hTq
                      have kP := BP2.cell 0
                      have fP := BP2.frozen 0
                      simp at kP
                      go_wp2_with (at_builtin; refine app1 wr rfl _ _ 24 27 rfl (.slice none 0 0) 24 Try.underlying24 info_ints rfl (by decide) wo.heap.size y c1 A1 vs rfl hvs (.slice A2 acc.length c2) rfl rfl (by omega) hz2 ?_; intro A5 c5 w5 hown5 hg5 hb5; have BP5 := BP2.grown hg5 (fun e => own_far hvs BP2 (by decide) e.symm); have cP5 := BP5.cell 0; have fP5 := BP5.frozen 0; simp at cP5)
                      go_roundw
                      case rel => exact ⟨y + 1, A5, c5, F ++ [acc], by omega, by go_num, BP5.set_ 0 _, (HPU hown5 hg5).far BP5 (by decide) (by decide) 0 _, fun p hp => by
                        rcases List.mem_append.1 hp with hp | hp
                        · exact HF.out p hp
                        · rw [List.mem_singleton.1 hp]; exact ⟨⟨HYQ.out hly, haq⟩, HACC.out⟩, (hT2.trans hb5).setCell (p := ⟨wo.heap.size + 1, 0, none⟩) (by show wo.heap.size ≤ wo.heap.size + 1; omega) _⟩
                      case measure => simp [intOf]; omega
                · obtain rfl : n = y := by omega
                  have hy1 : ¬ (n : Int) < (n : Int) := by omega
                  have B0r := (B0.next hT).next hTy
                  have cP := BP.cell 0
                  have cR := B0r.cell 0
                  have fR := B0r.frozen 0
                  simp at cP cR
                  have hw0 := hT.size
                  have hne : w.heap.size ≠ wo.heap.size + 1 := by omega
                  have hTf := below_next (below_next hb0 hT rfl) hTy rfl
                  go_wp2
                  (try simp only [Exit.inBlock, Exit.then])
                  refine bodyPost_ret (v := .agg #[.slice A1 n c1]) (results_cell_row rfl _ _ w.heap.size 26 #[.slice A1 n c1] (0, 0) _ (by simp) (B0r.set_ 0 _) Try.underlying26 rfl (by kernel_rfl)) rfl ?_
                  exact ⟨A1, c1, F, rfl, (hM.far B0r (by decide) (by decide) 0 _).mono (by omega), HF.out, hTf.setCell (p := ⟨w.heap.size, 0, none⟩) (Nat.le_refl _) _⟩
end Go.Proofs.Ytlncpabnlnipoaa
