
/- The reference's closure systems: no block of the answer is a block that the caller keeps. -/
import Derived.Test.YtlncpabnlnipoaaGreatGood
import Derived.Deep.RegionLaw
import Derived.Deep.RegionHeld3
import Derived.StillTailTactics
namespace Go.Proofs.YtlncpabnlnipoaaGreat
open Go.RowKit

def Off (q : Nat) (A : Option Addr) : Prop := ∀ b o, A = some ⟨b, o, none⟩ → b ≠ q
def RG (q : Nat) (w : World) (v : Value) (xs : List Int) : Prop := ∃ A n c, v = .slice A n c ∧ RdL RI w A n xs ∧ Off q A
theorem stab_RG {q : Nat} : Stab (RG q) := fun _ _ _ _ hb ⟨A, n, c, e, h, hq⟩ => ⟨A, n, c, e, h.same stab_RI hb, hq⟩
theorem RdL.toRV {q : Nat} {w : World} {A : Option Addr} {n : Nat} {xss : List (List Int)} (h : RdL (RG q) w A n xss) : RdL (RV RI) w A n xss :=
  ⟨h.1, h.2.1, fun k x hk => by
    obtain ⟨b, o, v, e, hc, A', n', c', e', hr, -⟩ := h.2.2 k x hk
    exact ⟨b, o, v, e, hc, A', n', c', e', hr⟩⟩
theorem RdL.rawG {q : Nat} {w : World} {A : Option Addr} {n : Nat} {xss : List (List Int)} (h : RdL (RG q) w A n xss) :
    ∃ ts : List SlT, RdL RSl w A n ts ∧ (∀ (k : Nat) t xs, ts[k]? = some t → xss[k]? = some xs → RdL RI w t.1 t.2.1 xs) ∧ ∀ (k : Nat) t, ts[k]? = some t → Off q t.1 := by
  obtain ⟨ts, hl, hp⟩ := choose_list (p := fun k (t : SlT) => ∃ b o xs, A = some ⟨b, o, none⟩ ∧ w.cell? ⟨b, o + k, none⟩ = some (slV t) ∧ xss[k]? = some xs ∧ RdL RI w t.1 t.2.1 xs ∧ Off q t.1) n (fun k hk => by
    obtain ⟨b, o, v, xs, e, hc, ⟨B, m, c, rfl, hr, ho⟩, -, hx⟩ := h.at hk
    exact ⟨(B, m, c), b, o, xs, e, hc, hx, hr, ho⟩)
  refine ⟨ts, ⟨hl, h.2.1, fun k t hk => ?_⟩, fun k t xs ht hx => ?_, fun k t ht => ?_⟩
  · obtain ⟨b, o, xs, e, hc, -, -⟩ := hp k t hk
    exact ⟨b, o, slV t, e, hc, rfl⟩
  · obtain ⟨b, o, ys, -, -, hy, hr, -⟩ := hp k t ht
    rw [hx] at hy
    injection hy with hy
    rw [hy]
    exact hr
  · obtain ⟨b, o, ys, -, -, -, -, ho⟩ := hp k t ht
    exact ho
theorem rg_of_rd {q : Nat} {w : World} {A : Option Addr} {n : Nat} {ts : List SlT} {xss : List (List Int)} (hn : RdL RSl w A n ts) (h : RdL (RV RI) w A n xss) (hR : ∀ (k : Nat) t, ts[k]? = some t → Off q t.1) : RdL (RG q) w A n xss := by
  refine ⟨h.1, h.2.1, fun k xs hk => ?_⟩
  obtain ⟨b, o, v, e, hc, B, m, c, rfl, hr⟩ := h.2.2 k xs hk
  have hkl : k < ts.length := by rw [hn.1, ← h.1]; exact (List.getElem?_eq_some_iff.1 hk).1
  obtain ⟨b', o', v', e', hc', hv⟩ := hn.2.2 k ts[k] (List.getElem?_eq_getElem hkl)
  rw [e] at e'
  simp only [Option.some.injEq, Addr.mk.injEq, and_true] at e'
  obtain ⟨rfl, rfl⟩ := e'
  rw [hc] at hc'
  injection hc' with hc'
  have h1 := hR k _ (List.getElem?_eq_getElem hkl)
  rw [show (Value.slice B m c) = slV ts[k] from hc'.trans hv] at hc
  have h2 : Value.slice B m c = slV ts[k] := hc'.trans hv
  unfold slV at h2
  injection h2 with hB _ _
  exact ⟨b, o, .slice B m c, e, by rw [show Value.slice B m c = slV ts[k] from hc'.trans hv]; exact hc, B, m, c, rfl, hr, by rw [hB]; exact h1⟩
theorem sort_resG {q : Nat} {w : World} {base : Nat} {e : TypeId} {A B : Option Addr} {n c m d k : Nat} {ts : List SlT} {xss : List (List Int)} {p : List Int} (h : w.ownsRow base e 1 (.slice A (n + 1) c) (n + 1) ((ts.take k ++ (B, m, d) :: ts.drop k).map slV))
    (hts : ts.length = n) (hx : xss.length = n) (hk : insPos p xss n = k) (hkn : k ≤ n) (hR : ∀ (j : Nat) t xs, ts[j]? = some t → xss[j]? = some xs → RdL RI w t.1 t.2.1 xs) (hp : RdL RI w B m p)
    (hG : ∀ (j : Nat) t, ts[j]? = some t → Off q t.1) (hB : Off q B) : RdL (RG q) w A (n + 1) (insT p xss) := by
  refine rg_of_rd (rd_of_own (R := RSl) h (fun x _ => rfl)) (sort_res h hts hx hk hkn hR hp) fun j t ht => ?_
  have hm := List.mem_of_getElem? ht
  rw [List.mem_append, List.mem_cons] at hm
  rcases hm with hm | rfl | hm
  · obtain ⟨i, hi⟩ := List.getElem?_of_mem (List.mem_of_mem_take hm)
    exact hG i t hi
  · exact hB
  · obtain ⟨i, hi⟩ := List.getElem?_of_mem (List.mem_of_mem_drop hm)
    exact hG i t hi
theorem own_off {q : Nat} {w : World} {base : Nat} {e : TypeId} {size : Nat} {A : Option Addr} {n c : Nat} {xs : List Value} (h : w.ownsRow base e size (.slice A n c) n xs) (hq : q < base) : Off q A := by
  intro b o hA
  subst hA
  rcases h.2 with ⟨h0, h1⟩ | ⟨g, cap, cur, hv, hb, _, hnc, _⟩
  · injection h0 with h0; cases h0
  · injection hv with hA _ hc
    simp only [Option.some.injEq, Addr.mk.injEq, and_true] at hA
    omega
/-- No inner slice that has anything lies in the block q. -/
def Far (q : Nat) (vs : List Value) : Prop := ∀ u ∈ vs, ∀ A n c, u = .slice A n c → 0 < n → Off q A
theorem rd_off {q : Nat} {w : World} {A : Option Addr} {n : Nat} {xs : List Int} (h : RdL RI w A n xs) (hn : 0 < n) (hq : w.heap.size ≤ q) : Off q A := by
  intro b o hA
  subst hA
  obtain ⟨v, x, hc, -⟩ := h.at' hn
  have := cell_lt hc
  simp at this
  omega
theorem far_sort {q : Nat} {w : World} {B : Option Addr} {n m d k : Nat} {ts : List SlT} {xss : List (List Int)} {p : List Int} (hts : ts.length = n) (hx : xss.length = n) (hR : ∀ (j : Nat) t xs, ts[j]? = some t → xss[j]? = some xs → RdL RI w t.1 t.2.1 xs) (hp : RdL RI w B m p) (hq : w.heap.size ≤ q) :
    Far q ((ts.take k ++ (B, m, d) :: ts.drop k).map slV) := by
  intro u hu A n' c e h0
  obtain ⟨t, ht, rfl⟩ := List.mem_map.1 hu
  unfold slV at e
  injection e with e1 e2 _
  rw [← e1]
  have hin : ∀ t ∈ ts, 0 < t.2.1 → Off q t.1 := fun t ht h0 => by
    obtain ⟨i, hi⟩ := List.getElem?_of_mem ht
    have hil := (List.getElem?_eq_some_iff.1 hi).1
    exact rd_off (hR i t _ hi (List.getElem?_eq_getElem (by omega))) h0 hq
  rw [List.mem_append, List.mem_cons] at ht
  rcases ht with ht | rfl | ht
  · exact hin t (List.mem_of_mem_take ht) (by omega)
  · exact rd_off hp (by have h1 : m = _ := e2; omega) hq
  · exact hin t (List.mem_of_mem_drop ht) (by omega)
set_option maxHeartbeats 2000000 in
theorem l5Sort_off (z0 b o n c : Nat) (B : Option Addr) (m d : Nat) (xss : List (List Int)) (p : List Int) (w : World) (h : RdL (RG z0) w (some ⟨b, o, none⟩) n xss) (hp : RdL RI w B m p) (hz : z0 < w.heap.size) (hzB : Off z0 B) (hc : n ≤ c) (hn : n ≤ 1048576) :
    Calls Tryz.prog 56 #[.slice (some ⟨b, o, none⟩) n c, .slice B m d] w fun e w' => ∃ g c', e = .returned (.slice (some ⟨g, 0, none⟩) (n + 1) c') ∧ n + 1 ≤ c' ∧ g ≠ z0 ∧ (∃ vs, w'.ownsRow w.heap.size 25 1 (.slice (some ⟨g, 0, none⟩) (n + 1) c') (n + 1) vs ∧ Far g vs) ∧ RdL (RG z0) w' (some ⟨g, 0, none⟩) (n + 1) (insT p xss) ∧ Below w.heap.size w w' := by
  have hle := h.le
  have hlen := Lib.hid h.len
  have hplen := Lib.hid hp.len
  go_enter Tryz.func56, Tryz.ntmps56
  go_wp2
  go_loopw [5] (fun i wr => ∃ k : Nat, k ≤ n ∧ i = .int .i64 k ∧ Hid (insPos p xss k = insPos p xss n) ∧ Drawn w wr) (fun i _ => (intOf i).toNat)
  case atStart => exact ⟨n, Nat.le_refl _, rfl, rfl, Drawn.zero _⟩
  case round =>
    obtain ⟨k, hk, rfl, H, z, rfl⟩ := hrel
    by_cases hk0 : 0 < k
    · have hi0 : (0 : Int) < (k : Int) := by omega
      have hi1 : (0 : Int) ≤ (k : Int) - 1 := by omega
      have hi2 : (k : Int) - 1 < (n : Int) := by omega
      obtain ⟨v, q, hcq, ⟨Q, j, dq, rfl, hq, -⟩, -, hx⟩ := h.at' (k := k - 1) (by omega)
      have hqlen := Lib.hid hq.len
      have HS : Hid (insPos p xss k = if lessT p q then insPos p xss (k - 1) else k) := by
        obtain ⟨k', rfl⟩ : ∃ k', k = k' + 1 := ⟨k - 1, by omega⟩
        simp at hx
        show insPos p xss (k' + 1) = _
        rw [insPos, List.getD_eq_getElem?_getD, hx]
        rfl
      clear hx
      by_cases h1 : m < j
      · go_wp2
        go_roundw
        case rel => exact ⟨k - 1, by omega, by rw [show ((k : Int) - 1) = ((k - 1 : Nat) : Int) from by omega], by rw [← H.out, HS.out, show lessT p q = true by unfold lessT; simp [hplen.out, hqlen.out, h1]]; rfl, (by first | exact Drawn.zero _ | exact Drawn.at_ _ _ | exact (Drawn.at_ _ _).more _ | exact ((Drawn.at_ _ _).more _).more _)⟩
        case measure => simp [intOf]; omega
      · by_cases h2 : m = j
        · subst h2
          rcases hl : lessL p q with _ | _
          · have HL := Lib.hid hl
            have HP : Hid (insPos p xss n = k) := by
              show _ = _
              rw [← H.out, HS.out, show lessT p q = false by unfold lessT; simp [hplen.out, hqlen.out, HL.out]]; rfl
            go_wp2_with (go_at_call 74; refine (l5Less_any _ _ _ _ _ _ _ _ (hp.drewN stab_RI _) (hq.drewN stab_RI _)).mono ?_; rintro e w' ⟨rfl, z', rfl⟩)
            have hk1 : (k : Int) ≤ (c : Int) := by omega
            have hk2 : (0 : Int) ≤ (k : Int) := by omega
            have hk3 : (k : Int) ≤ (n : Int) := by omega
            obtain ⟨ts, hts, htr, htg⟩ := h.rawG
            have HTS := Lib.hid hts.len
            by_cases hkc : c = k
            · have hnk : n = k := by omega
              have HD0 : Hid (ts.drop k = []) := List.drop_eq_nil_of_le (by rw [HTS.out]; omega)
              have HNK := Lib.hid hnk
              subst hkc
              go_region_law (first
                | (refine step_appAny _ rfl (.tmp 43) (.tmp 46) 24 25 rfl (.slice none 0 0) 24 Tryz.underlying24 info_ints rfl (by decide) w.heap.size 0 0 (some ⟨w.heap.size, 0, none⟩) [] (by rfl) (by first | exact lit0 _ (by simp) | exact (lit0 _ (by simp)).alloc _) (some ⟨b, o, none⟩) c c (ts.take c) slV (fun _ => rfl) (by rfl) ((hts.take (k := c) (by omega)).next stab_RSl (by first | exact (below_drewN (Below.refl _ _) _).alloc (by simp) _ | exact ((below_drewN (Below.refl _ _) _).alloc (by simp) _).alloc (by first | (simp; done) | (simp; omega)) _)) (fun _ _ _ hr => hr) (by omega) (by first | (simp; done) | (simp; omega)) ?_; intro A2 c2 w2 hown2 hg2 hb2; simp only [Nat.zero_add, List.nil_append] at hown2)
                | (refine step_appAny _ rfl (.tmp 43) (.tmp 46) 24 25 rfl (.slice none 0 0) 24 Tryz.underlying24 info_ints rfl (by decide) w.heap.size 0 0 (some ⟨w.heap.size + 1, 0, none⟩) [] (by rfl) (lit1 _ (by simp)) (some ⟨b, o, none⟩) c c (ts.take c) slV (fun _ => rfl) (by rfl) ((hts.take (k := c) (by omega)).next stab_RSl (by first | exact (below_drewN (Below.refl _ _) _).alloc (by simp) _ | exact ((below_drewN (Below.refl _ _) _).alloc (by simp) _).alloc (by first | (simp; done) | (simp; omega)) _)) (fun _ _ _ hr => hr) (by omega) (by first | (simp; done) | (simp; omega)) ?_; intro A2 c2 w2 hown2 hg2 hb2; simp only [Nat.zero_add, List.nil_append] at hown2)
                | (refine step_appAny (R := RSl) _ rfl (.tmp 47) (.tmp 49) 24 25 rfl (.slice none 0 0) 24 Tryz.underlying24 info_ints rfl (by decide) w.heap.size c c2 A2 ((ts.take c).map slV) (by rfl) (hown2.alloc _) (some ⟨w2.heap.size, 0, none⟩) 1 1 [(B, m, d)] slV (fun _ => rfl) (by rfl) (rd_cell (t := (B, m, d)) (cell_new _ rfl)) (fun _ _ _ hr => hr) (by omega) (by have h1 := hb2.size; first | (simp at h1; omega) | (simp at h1 ⊢; omega) | (simp; omega) | omega) ?_; intro A3 c3 w3 hown3 hg3 hb3)
                | (refine step_appAny (R := RSl) _ rfl (.tmp 47) (.tmp 49) 24 25 rfl (.slice none 0 0) 24 Tryz.underlying24 info_ints rfl (by decide) w.heap.size c c2 A2 ((ts.take c).map slV) (by rfl) hown2 (some ⟨w.heap.size + 1, 0, none⟩) 1 1 [(B, m, d)] slV (fun _ => rfl) (by rfl) (rd_cell (t := (B, m, d)) (hg2.cell (v := slV (B, m, d)) (cell_new _ (by simp)) (by simp [Value.ownBlock]))) (fun _ _ _ hr => hr) (by omega) (by have h1 := hb2.size; first | (simp at h1; omega) | (simp at h1 ⊢; omega) | (simp; omega) | omega) ?_; intro A3 c3 w3 hown3 hg3 hb3)
                | (refine step_appAny (R := RSl) _ rfl (.tmp 47) (.tmp 49) 24 25 rfl (.slice none 0 0) 24 Tryz.underlying24 info_ints rfl (by decide) w.heap.size c c2 A2 ((ts.take c).map slV) (by rfl) hown2 (some ⟨w.heap.size, 0, none⟩) 1 1 [(B, m, d)] slV (fun _ => rfl) (by rfl) (rd_cell (t := (B, m, d)) (hg2.cell (v := slV (B, m, d)) (cell_new2 _ _ (by simp)) (by simp [Value.ownBlock]))) (fun _ _ _ hr => hr) (by omega) (by have h1 := hb2.size; first | (simp at h1; omega) | (simp at h1 ⊢; omega) | (simp; omega) | omega) ?_; intro A3 c3 w3 hown3 hg3 hb3)
                | (refine step_appAny _ rfl (.tmp 50) (.tmp 53) 24 25 rfl (.slice none 0 0) 24 Tryz.underlying24 info_ints rfl (by decide) w.heap.size (c + 1) c3 A3 ((ts.take c).map slV ++ [slV (B, m, d)]) (by rfl) hown3 (some ⟨b, o, none⟩) 0 0 ([] : List SlT) slV (fun _ => rfl) (by rfl) (RdL.nil _ _ _) (fun _ _ _ hr => hr) (by omega) (by have h1 := hb2.size; have h2 := hb3.size; first | (simp at h1; omega) | (simp at h1 h2; omega) | (simp at h2; omega) | omega) ?_; intro A4 c4 w4 hown4 hg4 hb4))
              all_goals
                have hF3 : Below w.heap.size w w3 := (by refine Below.trans ?_ hb3; first | (refine Below.trans ?_ hb2; first | exact (below_drewN (Below.refl _ _) _).alloc (by simp) _ | exact ((below_drewN (Below.refl _ _) _).alloc (by simp) _).alloc (by first | (simp; done) | (simp; omega)) _) | (refine Below.alloc ?_ (by have h1 := hb2.size; first | (simp at h1; omega) | omega) _; refine Below.trans ?_ hb2; first | exact (below_drewN (Below.refl _ _) _).alloc (by simp) _ | exact ((below_drewN (Below.refl _ _) _).alloc (by simp) _).alloc (by first | (simp; done) | (simp; omega)) _))
                have hF := hF3.trans hb4
                have e1 : c + 1 + 0 = n + 1 := by omega
                rw [e1] at hown4
                have eL : (ts.take c).map slV ++ [slV (B, m, d)] ++ (([] : List SlT)).map slV = ((ts.take c) ++ (B, m, d) :: ts.drop c).map slV := by simp [HD0.out]
                rw [eL] at hown4
                obtain ⟨g4, hA4, hg4z, hcap⟩ := own_form hown4 (by omega)
                have hres := sort_resG (q := z0) (p := p) hown4 HTS.out hlen.out HP.out (by omega) (fun j t xs ht hx => (htr j t xs ht hx).next stab_RI hF) (hp.next stab_RI hF) htg hzB
                have HFAR := Lib.hid (fun j => far_sort (k := j) (B := B) (m := m) (d := d) HTS.out hlen.out htr hp hg4z); rw [hA4] at hres hown4; have HOW4 := Lib.hid hown4; clear hown4
                have HA4 := Lib.hid hA4
                clear hA4 e1 eL
                go_wp2
                go_ret
                exact ⟨g4, c4, by rw [← HA4.out, HNK.out]; rfl, hcap, by omega, ⟨_, HOW4.out, HFAR.out _⟩, hres, hF⟩
            · go_region_law (first
                | (refine step_appAny _ rfl (.tmp 43) (.tmp 46) 24 25 rfl (.slice none 0 0) 24 Tryz.underlying24 info_ints rfl (by decide) w.heap.size 0 0 (some ⟨w.heap.size, 0, none⟩) [] (by rfl) (by first | exact lit0 _ (by simp) | exact (lit0 _ (by simp)).alloc _) (some ⟨b, o, none⟩) k c (ts.take k) slV (fun _ => rfl) (by rfl) ((hts.take (k := k) (by omega)).next stab_RSl (by first | exact (below_drewN (Below.refl _ _) _).alloc (by simp) _ | exact ((below_drewN (Below.refl _ _) _).alloc (by simp) _).alloc (by first | (simp; done) | (simp; omega)) _)) (fun _ _ _ hr => hr) (by omega) (by first | (simp; done) | (simp; omega)) ?_; intro A2 c2 w2 hown2 hg2 hb2; simp only [Nat.zero_add, List.nil_append] at hown2)
                | (refine step_appAny _ rfl (.tmp 43) (.tmp 46) 24 25 rfl (.slice none 0 0) 24 Tryz.underlying24 info_ints rfl (by decide) w.heap.size 0 0 (some ⟨w.heap.size + 1, 0, none⟩) [] (by rfl) (lit1 _ (by simp)) (some ⟨b, o, none⟩) k c (ts.take k) slV (fun _ => rfl) (by rfl) ((hts.take (k := k) (by omega)).next stab_RSl (by first | exact (below_drewN (Below.refl _ _) _).alloc (by simp) _ | exact ((below_drewN (Below.refl _ _) _).alloc (by simp) _).alloc (by first | (simp; done) | (simp; omega)) _)) (fun _ _ _ hr => hr) (by omega) (by first | (simp; done) | (simp; omega)) ?_; intro A2 c2 w2 hown2 hg2 hb2; simp only [Nat.zero_add, List.nil_append] at hown2)
                | (refine step_appAny (R := RSl) _ rfl (.tmp 47) (.tmp 49) 24 25 rfl (.slice none 0 0) 24 Tryz.underlying24 info_ints rfl (by decide) w.heap.size k c2 A2 ((ts.take k).map slV) (by rfl) (hown2.alloc _) (some ⟨w2.heap.size, 0, none⟩) 1 1 [(B, m, d)] slV (fun _ => rfl) (by rfl) (rd_cell (t := (B, m, d)) (cell_new _ rfl)) (fun _ _ _ hr => hr) (by omega) (by have h1 := hb2.size; first | (simp at h1; omega) | (simp at h1 ⊢; omega) | (simp; omega) | omega) ?_; intro A3 c3 w3 hown3 hg3 hb3)
                | (refine step_appAny (R := RSl) _ rfl (.tmp 47) (.tmp 49) 24 25 rfl (.slice none 0 0) 24 Tryz.underlying24 info_ints rfl (by decide) w.heap.size k c2 A2 ((ts.take k).map slV) (by rfl) hown2 (some ⟨w.heap.size + 1, 0, none⟩) 1 1 [(B, m, d)] slV (fun _ => rfl) (by rfl) (rd_cell (t := (B, m, d)) (hg2.cell (v := slV (B, m, d)) (cell_new _ (by simp)) (by simp [Value.ownBlock]))) (fun _ _ _ hr => hr) (by omega) (by have h1 := hb2.size; first | (simp at h1; omega) | (simp at h1 ⊢; omega) | (simp; omega) | omega) ?_; intro A3 c3 w3 hown3 hg3 hb3)
                | (refine step_appAny (R := RSl) _ rfl (.tmp 47) (.tmp 49) 24 25 rfl (.slice none 0 0) 24 Tryz.underlying24 info_ints rfl (by decide) w.heap.size k c2 A2 ((ts.take k).map slV) (by rfl) hown2 (some ⟨w.heap.size, 0, none⟩) 1 1 [(B, m, d)] slV (fun _ => rfl) (by rfl) (rd_cell (t := (B, m, d)) (hg2.cell (v := slV (B, m, d)) (cell_new2 _ _ (by simp)) (by simp [Value.ownBlock]))) (fun _ _ _ hr => hr) (by omega) (by have h1 := hb2.size; first | (simp at h1; omega) | (simp at h1 ⊢; omega) | (simp; omega) | omega) ?_; intro A3 c3 w3 hown3 hg3 hb3)
                | (refine step_appAny _ rfl (.tmp 50) (.tmp 53) 24 25 rfl (.slice none 0 0) 24 Tryz.underlying24 info_ints rfl (by decide) w.heap.size (k + 1) c3 A3 ((ts.take k).map slV ++ [slV (B, m, d)]) (by rfl) hown3 (some ⟨b, o + k, none⟩) (n - k) (c - k) (ts.drop k) slV (fun _ => rfl) (by rfl) ((hts.drop k).next stab_RSl (by refine Below.trans ?_ hb3; first | (refine Below.trans ?_ hb2; first | exact (below_drewN (Below.refl _ _) _).alloc (by simp) _ | exact ((below_drewN (Below.refl _ _) _).alloc (by simp) _).alloc (by first | (simp; done) | (simp; omega)) _) | (refine Below.alloc ?_ (by have h1 := hb2.size; first | (simp at h1; omega) | omega) _; refine Below.trans ?_ hb2; first | exact (below_drewN (Below.refl _ _) _).alloc (by simp) _ | exact ((below_drewN (Below.refl _ _) _).alloc (by simp) _).alloc (by first | (simp; done) | (simp; omega)) _))) (fun _ _ _ hr => hr) (by omega) (by have h1 := hb2.size; have h2 := hb3.size; first | (simp at h1; omega) | (simp at h1 h2; omega) | (simp at h2; omega) | omega) ?_; intro A4 c4 w4 hown4 hg4 hb4))
              all_goals
                have hF3 : Below w.heap.size w w3 := (by refine Below.trans ?_ hb3; first | (refine Below.trans ?_ hb2; first | exact (below_drewN (Below.refl _ _) _).alloc (by simp) _ | exact ((below_drewN (Below.refl _ _) _).alloc (by simp) _).alloc (by first | (simp; done) | (simp; omega)) _) | (refine Below.alloc ?_ (by have h1 := hb2.size; first | (simp at h1; omega) | omega) _; refine Below.trans ?_ hb2; first | exact (below_drewN (Below.refl _ _) _).alloc (by simp) _ | exact ((below_drewN (Below.refl _ _) _).alloc (by simp) _).alloc (by first | (simp; done) | (simp; omega)) _))
                have hF := hF3.trans hb4
                have e1 : k + 1 + (n - k) = n + 1 := by omega
                rw [e1] at hown4
                have eL : (ts.take k).map slV ++ [slV (B, m, d)] ++ (ts.drop k).map slV = ((ts.take k) ++ (B, m, d) :: ts.drop k).map slV := by simp
                rw [eL] at hown4
                obtain ⟨g4, hA4, hg4z, hcap⟩ := own_form hown4 (by omega)
                have hres := sort_resG (q := z0) (p := p) hown4 HTS.out hlen.out HP.out (by omega) (fun j t xs ht hx => (htr j t xs ht hx).next stab_RI hF) (hp.next stab_RI hF) htg hzB
                have HFAR := Lib.hid (fun j => far_sort (k := j) (B := B) (m := m) (d := d) HTS.out hlen.out htr hp hg4z); rw [hA4] at hres hown4; have HOW4 := Lib.hid hown4; clear hown4
                have HA4 := Lib.hid hA4
                clear hA4 e1 eL
                go_wp2
                go_ret
                exact ⟨g4, c4, by rw [← HA4.out, show k + 1 + (n - k) = n + 1 from by omega]; rfl, hcap, by omega, ⟨_, HOW4.out, HFAR.out _⟩, hres, hF⟩
          · have HL := Lib.hid hl
            go_wp2_with (go_at_call 74; refine (l5Less_any _ _ _ _ _ _ _ _ (hp.drewN stab_RI _) (hq.drewN stab_RI _)).mono ?_; rintro e w' ⟨rfl, z', rfl⟩)
            go_roundw
            case rel => exact ⟨k - 1, by omega, by rw [show ((k : Int) - 1) = ((k - 1 : Nat) : Int) from by omega], by rw [← H.out, HS.out, show lessT p q = true by unfold lessT; simp [hplen.out, hqlen.out, HL.out]]; rfl, (by first | exact Drawn.zero _ | exact Drawn.at_ _ _ | exact (Drawn.at_ _ _).more _ | exact ((Drawn.at_ _ _).more _).more _)⟩
            case measure => simp [intOf]; omega
        · have hne : ((m : Int) == (j : Int)) = false := by simp; omega
          have HP : Hid (insPos p xss n = k) := by
            show _ = _
            rw [← H.out, HS.out, show lessT p q = false by unfold lessT; simp [hplen.out, hqlen.out, h1, h2]]; rfl
          go_wp2
          have hk1 : (k : Int) ≤ (c : Int) := by omega
          have hk2 : (0 : Int) ≤ (k : Int) := by omega
          have hk3 : (k : Int) ≤ (n : Int) := by omega
          obtain ⟨ts, hts, htr, htg⟩ := h.rawG
          have HTS := Lib.hid hts.len
          by_cases hkc : c = k
          · have hnk : n = k := by omega
            have HD0 : Hid (ts.drop k = []) := List.drop_eq_nil_of_le (by rw [HTS.out]; omega)
            have HNK := Lib.hid hnk
            subst hkc
            go_region_law (first
              | (refine step_appAny _ rfl (.tmp 43) (.tmp 46) 24 25 rfl (.slice none 0 0) 24 Tryz.underlying24 info_ints rfl (by decide) w.heap.size 0 0 (some ⟨w.heap.size, 0, none⟩) [] (by rfl) (by first | exact lit0 _ (by simp) | exact (lit0 _ (by simp)).alloc _) (some ⟨b, o, none⟩) c c (ts.take c) slV (fun _ => rfl) (by rfl) ((hts.take (k := c) (by omega)).next stab_RSl (by first | exact (below_drewN (Below.refl _ _) _).alloc (by simp) _ | exact ((below_drewN (Below.refl _ _) _).alloc (by simp) _).alloc (by first | (simp; done) | (simp; omega)) _)) (fun _ _ _ hr => hr) (by omega) (by first | (simp; done) | (simp; omega)) ?_; intro A2 c2 w2 hown2 hg2 hb2; simp only [Nat.zero_add, List.nil_append] at hown2)
              | (refine step_appAny _ rfl (.tmp 43) (.tmp 46) 24 25 rfl (.slice none 0 0) 24 Tryz.underlying24 info_ints rfl (by decide) w.heap.size 0 0 (some ⟨w.heap.size + 1, 0, none⟩) [] (by rfl) (lit1 _ (by simp)) (some ⟨b, o, none⟩) c c (ts.take c) slV (fun _ => rfl) (by rfl) ((hts.take (k := c) (by omega)).next stab_RSl (by first | exact (below_drewN (Below.refl _ _) _).alloc (by simp) _ | exact ((below_drewN (Below.refl _ _) _).alloc (by simp) _).alloc (by first | (simp; done) | (simp; omega)) _)) (fun _ _ _ hr => hr) (by omega) (by first | (simp; done) | (simp; omega)) ?_; intro A2 c2 w2 hown2 hg2 hb2; simp only [Nat.zero_add, List.nil_append] at hown2)
              | (refine step_appAny (R := RSl) _ rfl (.tmp 47) (.tmp 49) 24 25 rfl (.slice none 0 0) 24 Tryz.underlying24 info_ints rfl (by decide) w.heap.size c c2 A2 ((ts.take c).map slV) (by rfl) (hown2.alloc _) (some ⟨w2.heap.size, 0, none⟩) 1 1 [(B, m, d)] slV (fun _ => rfl) (by rfl) (rd_cell (t := (B, m, d)) (cell_new _ rfl)) (fun _ _ _ hr => hr) (by omega) (by have h1 := hb2.size; first | (simp at h1; omega) | (simp at h1 ⊢; omega) | (simp; omega) | omega) ?_; intro A3 c3 w3 hown3 hg3 hb3)
              | (refine step_appAny (R := RSl) _ rfl (.tmp 47) (.tmp 49) 24 25 rfl (.slice none 0 0) 24 Tryz.underlying24 info_ints rfl (by decide) w.heap.size c c2 A2 ((ts.take c).map slV) (by rfl) hown2 (some ⟨w.heap.size + 1, 0, none⟩) 1 1 [(B, m, d)] slV (fun _ => rfl) (by rfl) (rd_cell (t := (B, m, d)) (hg2.cell (v := slV (B, m, d)) (cell_new _ (by simp)) (by simp [Value.ownBlock]))) (fun _ _ _ hr => hr) (by omega) (by have h1 := hb2.size; first | (simp at h1; omega) | (simp at h1 ⊢; omega) | (simp; omega) | omega) ?_; intro A3 c3 w3 hown3 hg3 hb3)
              | (refine step_appAny (R := RSl) _ rfl (.tmp 47) (.tmp 49) 24 25 rfl (.slice none 0 0) 24 Tryz.underlying24 info_ints rfl (by decide) w.heap.size c c2 A2 ((ts.take c).map slV) (by rfl) hown2 (some ⟨w.heap.size, 0, none⟩) 1 1 [(B, m, d)] slV (fun _ => rfl) (by rfl) (rd_cell (t := (B, m, d)) (hg2.cell (v := slV (B, m, d)) (cell_new2 _ _ (by simp)) (by simp [Value.ownBlock]))) (fun _ _ _ hr => hr) (by omega) (by have h1 := hb2.size; first | (simp at h1; omega) | (simp at h1 ⊢; omega) | (simp; omega) | omega) ?_; intro A3 c3 w3 hown3 hg3 hb3)
              | (refine step_appAny _ rfl (.tmp 50) (.tmp 53) 24 25 rfl (.slice none 0 0) 24 Tryz.underlying24 info_ints rfl (by decide) w.heap.size (c + 1) c3 A3 ((ts.take c).map slV ++ [slV (B, m, d)]) (by rfl) hown3 (some ⟨b, o, none⟩) 0 0 ([] : List SlT) slV (fun _ => rfl) (by rfl) (RdL.nil _ _ _) (fun _ _ _ hr => hr) (by omega) (by have h1 := hb2.size; have h2 := hb3.size; first | (simp at h1; omega) | (simp at h1 h2; omega) | (simp at h2; omega) | omega) ?_; intro A4 c4 w4 hown4 hg4 hb4))
            all_goals
              have hF3 : Below w.heap.size w w3 := (by refine Below.trans ?_ hb3; first | (refine Below.trans ?_ hb2; first | exact (below_drewN (Below.refl _ _) _).alloc (by simp) _ | exact ((below_drewN (Below.refl _ _) _).alloc (by simp) _).alloc (by first | (simp; done) | (simp; omega)) _) | (refine Below.alloc ?_ (by have h1 := hb2.size; first | (simp at h1; omega) | omega) _; refine Below.trans ?_ hb2; first | exact (below_drewN (Below.refl _ _) _).alloc (by simp) _ | exact ((below_drewN (Below.refl _ _) _).alloc (by simp) _).alloc (by first | (simp; done) | (simp; omega)) _))
              have hF := hF3.trans hb4
              have e1 : c + 1 + 0 = n + 1 := by omega
              rw [e1] at hown4
              have eL : (ts.take c).map slV ++ [slV (B, m, d)] ++ (([] : List SlT)).map slV = ((ts.take c) ++ (B, m, d) :: ts.drop c).map slV := by simp [HD0.out]
              rw [eL] at hown4
              obtain ⟨g4, hA4, hg4z, hcap⟩ := own_form hown4 (by omega)
              have hres := sort_resG (q := z0) (p := p) hown4 HTS.out hlen.out HP.out (by omega) (fun j t xs ht hx => (htr j t xs ht hx).next stab_RI hF) (hp.next stab_RI hF) htg hzB
              have HFAR := Lib.hid (fun j => far_sort (k := j) (B := B) (m := m) (d := d) HTS.out hlen.out htr hp hg4z); rw [hA4] at hres hown4; have HOW4 := Lib.hid hown4; clear hown4
              have HA4 := Lib.hid hA4
              clear hA4 e1 eL
              go_wp2
              go_ret
              exact ⟨g4, c4, by rw [← HA4.out, HNK.out]; rfl, hcap, by omega, ⟨_, HOW4.out, HFAR.out _⟩, hres, hF⟩
          · go_region_law (first
              | (refine step_appAny _ rfl (.tmp 43) (.tmp 46) 24 25 rfl (.slice none 0 0) 24 Tryz.underlying24 info_ints rfl (by decide) w.heap.size 0 0 (some ⟨w.heap.size, 0, none⟩) [] (by rfl) (by first | exact lit0 _ (by simp) | exact (lit0 _ (by simp)).alloc _) (some ⟨b, o, none⟩) k c (ts.take k) slV (fun _ => rfl) (by rfl) ((hts.take (k := k) (by omega)).next stab_RSl (by first | exact (below_drewN (Below.refl _ _) _).alloc (by simp) _ | exact ((below_drewN (Below.refl _ _) _).alloc (by simp) _).alloc (by first | (simp; done) | (simp; omega)) _)) (fun _ _ _ hr => hr) (by omega) (by first | (simp; done) | (simp; omega)) ?_; intro A2 c2 w2 hown2 hg2 hb2; simp only [Nat.zero_add, List.nil_append] at hown2)
              | (refine step_appAny _ rfl (.tmp 43) (.tmp 46) 24 25 rfl (.slice none 0 0) 24 Tryz.underlying24 info_ints rfl (by decide) w.heap.size 0 0 (some ⟨w.heap.size + 1, 0, none⟩) [] (by rfl) (lit1 _ (by simp)) (some ⟨b, o, none⟩) k c (ts.take k) slV (fun _ => rfl) (by rfl) ((hts.take (k := k) (by omega)).next stab_RSl (by first | exact (below_drewN (Below.refl _ _) _).alloc (by simp) _ | exact ((below_drewN (Below.refl _ _) _).alloc (by simp) _).alloc (by first | (simp; done) | (simp; omega)) _)) (fun _ _ _ hr => hr) (by omega) (by first | (simp; done) | (simp; omega)) ?_; intro A2 c2 w2 hown2 hg2 hb2; simp only [Nat.zero_add, List.nil_append] at hown2)
              | (refine step_appAny (R := RSl) _ rfl (.tmp 47) (.tmp 49) 24 25 rfl (.slice none 0 0) 24 Tryz.underlying24 info_ints rfl (by decide) w.heap.size k c2 A2 ((ts.take k).map slV) (by rfl) (hown2.alloc _) (some ⟨w2.heap.size, 0, none⟩) 1 1 [(B, m, d)] slV (fun _ => rfl) (by rfl) (rd_cell (t := (B, m, d)) (cell_new _ rfl)) (fun _ _ _ hr => hr) (by omega) (by have h1 := hb2.size; first | (simp at h1; omega) | (simp at h1 ⊢; omega) | (simp; omega) | omega) ?_; intro A3 c3 w3 hown3 hg3 hb3)
              | (refine step_appAny (R := RSl) _ rfl (.tmp 47) (.tmp 49) 24 25 rfl (.slice none 0 0) 24 Tryz.underlying24 info_ints rfl (by decide) w.heap.size k c2 A2 ((ts.take k).map slV) (by rfl) hown2 (some ⟨w.heap.size + 1, 0, none⟩) 1 1 [(B, m, d)] slV (fun _ => rfl) (by rfl) (rd_cell (t := (B, m, d)) (hg2.cell (v := slV (B, m, d)) (cell_new _ (by simp)) (by simp [Value.ownBlock]))) (fun _ _ _ hr => hr) (by omega) (by have h1 := hb2.size; first | (simp at h1; omega) | (simp at h1 ⊢; omega) | (simp; omega) | omega) ?_; intro A3 c3 w3 hown3 hg3 hb3)
              | (refine step_appAny (R := RSl) _ rfl (.tmp 47) (.tmp 49) 24 25 rfl (.slice none 0 0) 24 Tryz.underlying24 info_ints rfl (by decide) w.heap.size k c2 A2 ((ts.take k).map slV) (by rfl) hown2 (some ⟨w.heap.size, 0, none⟩) 1 1 [(B, m, d)] slV (fun _ => rfl) (by rfl) (rd_cell (t := (B, m, d)) (hg2.cell (v := slV (B, m, d)) (cell_new2 _ _ (by simp)) (by simp [Value.ownBlock]))) (fun _ _ _ hr => hr) (by omega) (by have h1 := hb2.size; first | (simp at h1; omega) | (simp at h1 ⊢; omega) | (simp; omega) | omega) ?_; intro A3 c3 w3 hown3 hg3 hb3)
              | (refine step_appAny _ rfl (.tmp 50) (.tmp 53) 24 25 rfl (.slice none 0 0) 24 Tryz.underlying24 info_ints rfl (by decide) w.heap.size (k + 1) c3 A3 ((ts.take k).map slV ++ [slV (B, m, d)]) (by rfl) hown3 (some ⟨b, o + k, none⟩) (n - k) (c - k) (ts.drop k) slV (fun _ => rfl) (by rfl) ((hts.drop k).next stab_RSl (by refine Below.trans ?_ hb3; first | (refine Below.trans ?_ hb2; first | exact (below_drewN (Below.refl _ _) _).alloc (by simp) _ | exact ((below_drewN (Below.refl _ _) _).alloc (by simp) _).alloc (by first | (simp; done) | (simp; omega)) _) | (refine Below.alloc ?_ (by have h1 := hb2.size; first | (simp at h1; omega) | omega) _; refine Below.trans ?_ hb2; first | exact (below_drewN (Below.refl _ _) _).alloc (by simp) _ | exact ((below_drewN (Below.refl _ _) _).alloc (by simp) _).alloc (by first | (simp; done) | (simp; omega)) _))) (fun _ _ _ hr => hr) (by omega) (by have h1 := hb2.size; have h2 := hb3.size; first | (simp at h1; omega) | (simp at h1 h2; omega) | (simp at h2; omega) | omega) ?_; intro A4 c4 w4 hown4 hg4 hb4))
            all_goals
              have hF3 : Below w.heap.size w w3 := (by refine Below.trans ?_ hb3; first | (refine Below.trans ?_ hb2; first | exact (below_drewN (Below.refl _ _) _).alloc (by simp) _ | exact ((below_drewN (Below.refl _ _) _).alloc (by simp) _).alloc (by first | (simp; done) | (simp; omega)) _) | (refine Below.alloc ?_ (by have h1 := hb2.size; first | (simp at h1; omega) | omega) _; refine Below.trans ?_ hb2; first | exact (below_drewN (Below.refl _ _) _).alloc (by simp) _ | exact ((below_drewN (Below.refl _ _) _).alloc (by simp) _).alloc (by first | (simp; done) | (simp; omega)) _))
              have hF := hF3.trans hb4
              have e1 : k + 1 + (n - k) = n + 1 := by omega
              rw [e1] at hown4
              have eL : (ts.take k).map slV ++ [slV (B, m, d)] ++ (ts.drop k).map slV = ((ts.take k) ++ (B, m, d) :: ts.drop k).map slV := by simp
              rw [eL] at hown4
              obtain ⟨g4, hA4, hg4z, hcap⟩ := own_form hown4 (by omega)
              have hres := sort_resG (q := z0) (p := p) hown4 HTS.out hlen.out HP.out (by omega) (fun j t xs ht hx => (htr j t xs ht hx).next stab_RI hF) (hp.next stab_RI hF) htg hzB
              have HFAR := Lib.hid (fun j => far_sort (k := j) (B := B) (m := m) (d := d) HTS.out hlen.out htr hp hg4z); rw [hA4] at hres hown4; have HOW4 := Lib.hid hown4; clear hown4
              have HA4 := Lib.hid hA4
              clear hA4 e1 eL
              go_wp2
              go_ret
              exact ⟨g4, c4, by rw [← HA4.out, show k + 1 + (n - k) = n + 1 from by omega]; rfl, hcap, by omega, ⟨_, HOW4.out, HFAR.out _⟩, hres, hF⟩
    · have hi0 : ¬ (0 : Int) < (k : Int) := by omega
      have HP : Hid (insPos p xss n = k) := by
        show _ = _
        have hk00 : k = 0 := by omega
        subst hk00
        exact H.out.symm
      go_wp2
      have hk1 : (k : Int) ≤ (c : Int) := by omega
      have hk2 : (0 : Int) ≤ (k : Int) := by omega
      have hk3 : (k : Int) ≤ (n : Int) := by omega
      obtain ⟨ts, hts, htr, htg⟩ := h.rawG
      have HTS := Lib.hid hts.len
      by_cases hkc : c = k
      · have hnk : n = k := by omega
        have HD0 : Hid (ts.drop k = []) := List.drop_eq_nil_of_le (by rw [HTS.out]; omega)
        have HNK := Lib.hid hnk
        subst hkc
        go_region_law (first
          | (refine step_appAny _ rfl (.tmp 43) (.tmp 46) 24 25 rfl (.slice none 0 0) 24 Tryz.underlying24 info_ints rfl (by decide) w.heap.size 0 0 (some ⟨w.heap.size, 0, none⟩) [] (by rfl) (by first | exact lit0 _ (by simp) | exact (lit0 _ (by simp)).alloc _) (some ⟨b, o, none⟩) c c (ts.take c) slV (fun _ => rfl) (by rfl) ((hts.take (k := c) (by omega)).next stab_RSl (by first | exact (below_drewN (Below.refl _ _) _).alloc (by simp) _ | exact ((below_drewN (Below.refl _ _) _).alloc (by simp) _).alloc (by first | (simp; done) | (simp; omega)) _)) (fun _ _ _ hr => hr) (by omega) (by first | (simp; done) | (simp; omega)) ?_; intro A2 c2 w2 hown2 hg2 hb2; simp only [Nat.zero_add, List.nil_append] at hown2)
          | (refine step_appAny _ rfl (.tmp 43) (.tmp 46) 24 25 rfl (.slice none 0 0) 24 Tryz.underlying24 info_ints rfl (by decide) w.heap.size 0 0 (some ⟨w.heap.size + 1, 0, none⟩) [] (by rfl) (lit1 _ (by simp)) (some ⟨b, o, none⟩) c c (ts.take c) slV (fun _ => rfl) (by rfl) ((hts.take (k := c) (by omega)).next stab_RSl (by first | exact (below_drewN (Below.refl _ _) _).alloc (by simp) _ | exact ((below_drewN (Below.refl _ _) _).alloc (by simp) _).alloc (by first | (simp; done) | (simp; omega)) _)) (fun _ _ _ hr => hr) (by omega) (by first | (simp; done) | (simp; omega)) ?_; intro A2 c2 w2 hown2 hg2 hb2; simp only [Nat.zero_add, List.nil_append] at hown2)
          | (refine step_appAny (R := RSl) _ rfl (.tmp 47) (.tmp 49) 24 25 rfl (.slice none 0 0) 24 Tryz.underlying24 info_ints rfl (by decide) w.heap.size c c2 A2 ((ts.take c).map slV) (by rfl) (hown2.alloc _) (some ⟨w2.heap.size, 0, none⟩) 1 1 [(B, m, d)] slV (fun _ => rfl) (by rfl) (rd_cell (t := (B, m, d)) (cell_new _ rfl)) (fun _ _ _ hr => hr) (by omega) (by have h1 := hb2.size; first | (simp at h1; omega) | (simp at h1 ⊢; omega) | (simp; omega) | omega) ?_; intro A3 c3 w3 hown3 hg3 hb3)
          | (refine step_appAny (R := RSl) _ rfl (.tmp 47) (.tmp 49) 24 25 rfl (.slice none 0 0) 24 Tryz.underlying24 info_ints rfl (by decide) w.heap.size c c2 A2 ((ts.take c).map slV) (by rfl) hown2 (some ⟨w.heap.size + 1, 0, none⟩) 1 1 [(B, m, d)] slV (fun _ => rfl) (by rfl) (rd_cell (t := (B, m, d)) (hg2.cell (v := slV (B, m, d)) (cell_new _ (by simp)) (by simp [Value.ownBlock]))) (fun _ _ _ hr => hr) (by omega) (by have h1 := hb2.size; first | (simp at h1; omega) | (simp at h1 ⊢; omega) | (simp; omega) | omega) ?_; intro A3 c3 w3 hown3 hg3 hb3)
          | (refine step_appAny (R := RSl) _ rfl (.tmp 47) (.tmp 49) 24 25 rfl (.slice none 0 0) 24 Tryz.underlying24 info_ints rfl (by decide) w.heap.size c c2 A2 ((ts.take c).map slV) (by rfl) hown2 (some ⟨w.heap.size, 0, none⟩) 1 1 [(B, m, d)] slV (fun _ => rfl) (by rfl) (rd_cell (t := (B, m, d)) (hg2.cell (v := slV (B, m, d)) (cell_new2 _ _ (by simp)) (by simp [Value.ownBlock]))) (fun _ _ _ hr => hr) (by omega) (by have h1 := hb2.size; first | (simp at h1; omega) | (simp at h1 ⊢; omega) | (simp; omega) | omega) ?_; intro A3 c3 w3 hown3 hg3 hb3)
          | (refine step_appAny _ rfl (.tmp 50) (.tmp 53) 24 25 rfl (.slice none 0 0) 24 Tryz.underlying24 info_ints rfl (by decide) w.heap.size (c + 1) c3 A3 ((ts.take c).map slV ++ [slV (B, m, d)]) (by rfl) hown3 (some ⟨b, o, none⟩) 0 0 ([] : List SlT) slV (fun _ => rfl) (by rfl) (RdL.nil _ _ _) (fun _ _ _ hr => hr) (by omega) (by have h1 := hb2.size; have h2 := hb3.size; first | (simp at h1; omega) | (simp at h1 h2; omega) | (simp at h2; omega) | omega) ?_; intro A4 c4 w4 hown4 hg4 hb4))
        all_goals
          have hF3 : Below w.heap.size w w3 := (by refine Below.trans ?_ hb3; first | (refine Below.trans ?_ hb2; first | exact (below_drewN (Below.refl _ _) _).alloc (by simp) _ | exact ((below_drewN (Below.refl _ _) _).alloc (by simp) _).alloc (by first | (simp; done) | (simp; omega)) _) | (refine Below.alloc ?_ (by have h1 := hb2.size; first | (simp at h1; omega) | omega) _; refine Below.trans ?_ hb2; first | exact (below_drewN (Below.refl _ _) _).alloc (by simp) _ | exact ((below_drewN (Below.refl _ _) _).alloc (by simp) _).alloc (by first | (simp; done) | (simp; omega)) _))
          have hF := hF3.trans hb4
          have e1 : c + 1 + 0 = n + 1 := by omega
          rw [e1] at hown4
          have eL : (ts.take c).map slV ++ [slV (B, m, d)] ++ (([] : List SlT)).map slV = ((ts.take c) ++ (B, m, d) :: ts.drop c).map slV := by simp [HD0.out]
          rw [eL] at hown4
          obtain ⟨g4, hA4, hg4z, hcap⟩ := own_form hown4 (by omega)
          have hres := sort_resG (q := z0) (p := p) hown4 HTS.out hlen.out HP.out (by omega) (fun j t xs ht hx => (htr j t xs ht hx).next stab_RI hF) (hp.next stab_RI hF) htg hzB
          have HFAR := Lib.hid (fun j => far_sort (k := j) (B := B) (m := m) (d := d) HTS.out hlen.out htr hp hg4z); rw [hA4] at hres hown4; have HOW4 := Lib.hid hown4; clear hown4
          have HA4 := Lib.hid hA4
          clear hA4 e1 eL
          go_wp2
          go_ret
          exact ⟨g4, c4, by rw [← HA4.out, HNK.out]; rfl, hcap, by omega, ⟨_, HOW4.out, HFAR.out _⟩, hres, hF⟩
      · go_region_law (first
          | (refine step_appAny _ rfl (.tmp 43) (.tmp 46) 24 25 rfl (.slice none 0 0) 24 Tryz.underlying24 info_ints rfl (by decide) w.heap.size 0 0 (some ⟨w.heap.size, 0, none⟩) [] (by rfl) (by first | exact lit0 _ (by simp) | exact (lit0 _ (by simp)).alloc _) (some ⟨b, o, none⟩) k c (ts.take k) slV (fun _ => rfl) (by rfl) ((hts.take (k := k) (by omega)).next stab_RSl (by first | exact (below_drewN (Below.refl _ _) _).alloc (by simp) _ | exact ((below_drewN (Below.refl _ _) _).alloc (by simp) _).alloc (by first | (simp; done) | (simp; omega)) _)) (fun _ _ _ hr => hr) (by omega) (by first | (simp; done) | (simp; omega)) ?_; intro A2 c2 w2 hown2 hg2 hb2; simp only [Nat.zero_add, List.nil_append] at hown2)
          | (refine step_appAny _ rfl (.tmp 43) (.tmp 46) 24 25 rfl (.slice none 0 0) 24 Tryz.underlying24 info_ints rfl (by decide) w.heap.size 0 0 (some ⟨w.heap.size + 1, 0, none⟩) [] (by rfl) (lit1 _ (by simp)) (some ⟨b, o, none⟩) k c (ts.take k) slV (fun _ => rfl) (by rfl) ((hts.take (k := k) (by omega)).next stab_RSl (by first | exact (below_drewN (Below.refl _ _) _).alloc (by simp) _ | exact ((below_drewN (Below.refl _ _) _).alloc (by simp) _).alloc (by first | (simp; done) | (simp; omega)) _)) (fun _ _ _ hr => hr) (by omega) (by first | (simp; done) | (simp; omega)) ?_; intro A2 c2 w2 hown2 hg2 hb2; simp only [Nat.zero_add, List.nil_append] at hown2)
          | (refine step_appAny (R := RSl) _ rfl (.tmp 47) (.tmp 49) 24 25 rfl (.slice none 0 0) 24 Tryz.underlying24 info_ints rfl (by decide) w.heap.size k c2 A2 ((ts.take k).map slV) (by rfl) (hown2.alloc _) (some ⟨w2.heap.size, 0, none⟩) 1 1 [(B, m, d)] slV (fun _ => rfl) (by rfl) (rd_cell (t := (B, m, d)) (cell_new _ rfl)) (fun _ _ _ hr => hr) (by omega) (by have h1 := hb2.size; first | (simp at h1; omega) | (simp at h1 ⊢; omega) | (simp; omega) | omega) ?_; intro A3 c3 w3 hown3 hg3 hb3)
          | (refine step_appAny (R := RSl) _ rfl (.tmp 47) (.tmp 49) 24 25 rfl (.slice none 0 0) 24 Tryz.underlying24 info_ints rfl (by decide) w.heap.size k c2 A2 ((ts.take k).map slV) (by rfl) hown2 (some ⟨w.heap.size + 1, 0, none⟩) 1 1 [(B, m, d)] slV (fun _ => rfl) (by rfl) (rd_cell (t := (B, m, d)) (hg2.cell (v := slV (B, m, d)) (cell_new _ (by simp)) (by simp [Value.ownBlock]))) (fun _ _ _ hr => hr) (by omega) (by have h1 := hb2.size; first | (simp at h1; omega) | (simp at h1 ⊢; omega) | (simp; omega) | omega) ?_; intro A3 c3 w3 hown3 hg3 hb3)
          | (refine step_appAny (R := RSl) _ rfl (.tmp 47) (.tmp 49) 24 25 rfl (.slice none 0 0) 24 Tryz.underlying24 info_ints rfl (by decide) w.heap.size k c2 A2 ((ts.take k).map slV) (by rfl) hown2 (some ⟨w.heap.size, 0, none⟩) 1 1 [(B, m, d)] slV (fun _ => rfl) (by rfl) (rd_cell (t := (B, m, d)) (hg2.cell (v := slV (B, m, d)) (cell_new2 _ _ (by simp)) (by simp [Value.ownBlock]))) (fun _ _ _ hr => hr) (by omega) (by have h1 := hb2.size; first | (simp at h1; omega) | (simp at h1 ⊢; omega) | (simp; omega) | omega) ?_; intro A3 c3 w3 hown3 hg3 hb3)
          | (refine step_appAny _ rfl (.tmp 50) (.tmp 53) 24 25 rfl (.slice none 0 0) 24 Tryz.underlying24 info_ints rfl (by decide) w.heap.size (k + 1) c3 A3 ((ts.take k).map slV ++ [slV (B, m, d)]) (by rfl) hown3 (some ⟨b, o + k, none⟩) (n - k) (c - k) (ts.drop k) slV (fun _ => rfl) (by rfl) ((hts.drop k).next stab_RSl (by refine Below.trans ?_ hb3; first | (refine Below.trans ?_ hb2; first | exact (below_drewN (Below.refl _ _) _).alloc (by simp) _ | exact ((below_drewN (Below.refl _ _) _).alloc (by simp) _).alloc (by first | (simp; done) | (simp; omega)) _) | (refine Below.alloc ?_ (by have h1 := hb2.size; first | (simp at h1; omega) | omega) _; refine Below.trans ?_ hb2; first | exact (below_drewN (Below.refl _ _) _).alloc (by simp) _ | exact ((below_drewN (Below.refl _ _) _).alloc (by simp) _).alloc (by first | (simp; done) | (simp; omega)) _))) (fun _ _ _ hr => hr) (by omega) (by have h1 := hb2.size; have h2 := hb3.size; first | (simp at h1; omega) | (simp at h1 h2; omega) | (simp at h2; omega) | omega) ?_; intro A4 c4 w4 hown4 hg4 hb4))
        all_goals
          have hF3 : Below w.heap.size w w3 := (by refine Below.trans ?_ hb3; first | (refine Below.trans ?_ hb2; first | exact (below_drewN (Below.refl _ _) _).alloc (by simp) _ | exact ((below_drewN (Below.refl _ _) _).alloc (by simp) _).alloc (by first | (simp; done) | (simp; omega)) _) | (refine Below.alloc ?_ (by have h1 := hb2.size; first | (simp at h1; omega) | omega) _; refine Below.trans ?_ hb2; first | exact (below_drewN (Below.refl _ _) _).alloc (by simp) _ | exact ((below_drewN (Below.refl _ _) _).alloc (by simp) _).alloc (by first | (simp; done) | (simp; omega)) _))
          have hF := hF3.trans hb4
          have e1 : k + 1 + (n - k) = n + 1 := by omega
          rw [e1] at hown4
          have eL : (ts.take k).map slV ++ [slV (B, m, d)] ++ (ts.drop k).map slV = ((ts.take k) ++ (B, m, d) :: ts.drop k).map slV := by simp
          rw [eL] at hown4
          obtain ⟨g4, hA4, hg4z, hcap⟩ := own_form hown4 (by omega)
          have hres := sort_resG (q := z0) (p := p) hown4 HTS.out hlen.out HP.out (by omega) (fun j t xs ht hx => (htr j t xs ht hx).next stab_RI hF) (hp.next stab_RI hF) htg hzB
          have HFAR := Lib.hid (fun j => far_sort (k := j) (B := B) (m := m) (d := d) HTS.out hlen.out htr hp hg4z); rw [hA4] at hres hown4; have HOW4 := Lib.hid hown4; clear hown4
          have HA4 := Lib.hid hA4
          clear hA4 e1 eL
          go_wp2
          go_ret
          exact ⟨g4, c4, by rw [← HA4.out, show k + 1 + (n - k) = n + 1 from by omega]; rfl, hcap, by omega, ⟨_, HOW4.out, HFAR.out _⟩, hres, hF⟩
set_option maxHeartbeats 400000 in
theorem l30Put_off (z0 b o n c : Nat) (B : Option Addr) (m d : Nat) (xss : List (List Int)) (p : List Int) (w : World) (h : RdL (RG z0) w (some ⟨b, o, none⟩) n xss) (hp : RdL RI w B m p) (hz : z0 < w.heap.size) (hzB : Off z0 B) (hzb : b ≠ z0) {lo : Nat} (hlo : lo ≤ w.heap.size) {vs0 : List Value} (hown : w.ownsRow lo 25 1 (.slice (some ⟨b, o, none⟩) n c) n vs0) (hfar : Far b vs0) (hc : n ≤ c) (hn : n ≤ 1048576) :
    Calls Tryz.prog 76 #[.slice (some ⟨b, o, none⟩) n c, .slice B m d] w fun e w' => ∃ b' o' n' c', e = .returned (.slice (some ⟨b', o', none⟩) n' c') ∧ n' ≤ c' ∧ b' ≠ z0 ∧ (∃ vs, w'.ownsRow lo 25 1 (.slice (some ⟨b', o', none⟩) n' c') n' vs ∧ Far b' vs) ∧ RdL (RG z0) w' (some ⟨b', o', none⟩) n' (putL p xss) ∧ Below w.heap.size w w' := by
  have HOW := Lib.hid hown
  clear hown
  by_cases hpl : 0 ≤ place xss p
  · have HP : Hid (putL p xss = xss) := by show _ = _; unfold putL; rw [if_pos hpl]
    go_enter Tryz.func76, Tryz.ntmps76
    go_wp2_with (go_at_call 86; refine (l12Place_any _ _ _ _ _ _ _ _ _ h.toRV hp).mono ?_; rintro e w' ⟨rfl, z, rfl⟩)
    go_ret
    exact ⟨b, o, n, c, rfl, hc, hzb, ⟨_, own_drewN HOW.out _, hfar⟩, by rw [HP.out]; exact h.drewN stab_RG _, below_drewN (Below.refl _ _) _⟩
  · have HP : Hid (putL p xss = insT p xss) := by show _ = _; unfold putL; rw [if_neg hpl]
    go_enter Tryz.func76, Tryz.ntmps76
    go_wp2_with (go_at_call 86; refine (l12Place_any _ _ _ _ _ _ _ _ _ h.toRV hp).mono ?_; rintro e w' ⟨rfl, z, rfl⟩)
    refine (l5Sort_off z0 _ _ _ _ _ _ _ _ _ _ (h.drewN stab_RG _) (hp.drewN stab_RI _) (by simpa using hz) hzB hc hn).mono ?_
    rintro e w2 ⟨g, c', rfl, hc', hgz, ⟨vs, hvs, hfv⟩, hr, hb⟩
    go_wp2_with fail
    go_ret
    exact ⟨g, 0, n + 1, c', rfl, hc', hgz, ⟨_, own_mono hvs hlo, hfv⟩, by rw [HP.out]; exact hr, (below_drewN (Below.refl _ _) _).trans hb⟩

/-- A slice of slices as it is handed from call to call; none of its blocks is q. -/
def OutG (q lo : Nat) (w : World) (v : Value) (out : List (List Int)) : Prop := ∃ b o n c, v = .slice (some ⟨b, o, none⟩) n c ∧ n ≤ c ∧ b ≠ q ∧ (∃ vs, w.ownsRow lo 25 1 v n vs ∧ Far b vs) ∧ RdL (RG q) w (some ⟨b, o, none⟩) n out
set_option maxHeartbeats 1000000 in
theorem l30System_off (z0 : Nat) (A : Option Addr) (n m c : Nat) (xss : List (List Int)) (w : World) (h : RdL (RV RI) w A m xss) (hz : z0 < w.heap.size) (hn : n ≤ 6) :
    Calls Tryz.prog 59 #[.int .i64 n, .slice A m c] w fun e w' => ∃ v, e = .returned v ∧ OutG z0 w.heap.size w' v (systemL n xss) ∧ Below w.heap.size w w' := by
  have hle := h.le
  go_enter Tryz.func59, Tryz.ntmps59
  go_wp2_with fail
  refine (l6Identity_any n _ (by omega)).mono ?_
  rintro e w1 ⟨A', c', rfl, hid, hb1⟩
  have hoff := own_off hid hz
  have hid' := rd_of_own (R := RI) hid (fun x hx => by have := mem_upTo.1 hx; exact ⟨rfl, by omega, by omega⟩)
  have hz1 := hb1.size
  have howst : (w1.alloc (.cells #[.slice A' n c'] 25)).ownsRow w.heap.size 25 1 (.slice (some ⟨w1.heap.size, 0, none⟩) 1 1) 1 [.slice A' n c'] := World.ownsRow_lit w1 #[.slice A' n c'] 1 hz1 (by unfold maxLen; omega) rfl
  have hfst : Far w1.heap.size [.slice A' n c'] := by
    intro u hu A n2 c2 e h0 b o hA
    rw [List.mem_singleton.1 hu] at e
    injection e with e1 _ _
    subst e1
    subst hA
    have := (hid.lt b rfl).2
    omega
  have hbox := below_box w1 (.cells #[.slice A' n c'] 25)
  have hT1 := below_next hb1 hbox rfl
  have hst : RdL (RG z0) (w1.alloc (.cells #[.slice A' n c'] 25)) (some ⟨w1.heap.size, 0, none⟩) 1 [upTo n] := by
    refine ⟨rfl, by unfold maxLen; omega, fun k x hk => ?_⟩
    have hk1 := (List.getElem?_eq_some_iff.1 hk).1
    simp at hk1
    subst hk1
    simp at hk
    subst hk
    exact ⟨w1.heap.size, 0, _, rfl, cell_new _ rfl, A', n, c', rfl, hid'.next stab_RI hbox, hoff⟩
  clear hid hid'
  go_wp2_with fail
  go_loopw [5, 6, 7, 8] (fun v i _ _ wr => ∃ (k : Nat) (out : List (List Int)), k ≤ m ∧ i = .int .i64 k ∧ OutG z0 w.heap.size wr v out ∧ Inv n out ∧ Hid (systemTo (xss.drop k) out = systemL n xss) ∧ Below w.heap.size w wr) (fun _ i _ _ _ => m - (intOf i).toNat)
  case atStart => exact ⟨0, [upTo n], Nat.zero_le _, rfl, ⟨_, _, _, _, rfl, Nat.le_refl _, (by have := hb1.size; omega), ⟨_, howst, hfst⟩, hst⟩, inv_start n, rfl, hT1⟩
  case round =>
    clear hst hT1 hb1 hbox hz1 howst
    obtain ⟨k, out, hk, rfl, ⟨ob, oo, on, oc, rfl, hoc, hoz, ⟨vo, hvo, hfo⟩, ho⟩, hinv, H, hT⟩ := hrel
    replace h := h.next stab_RVI hT
    have hzr : z0 < wr.heap.size := Nat.lt_of_lt_of_le hz hT.size
    by_cases hlt : k < m
    · obtain ⟨b, o, v, s, rfl, hc, ⟨B, j, d, rfl, hs⟩, hd, hx⟩ := h.at hlt
      have H1 := Lib.hid hd
      have hlen := Lib.hid ho.len
      have hol := inv_len hinv hn
      have hon : on ≤ 64 := by rw [hlen.out] at hol; exact hol
      have hole := ho.le
      clear hd hx hol
      obtain ⟨wo, hwo⟩ : ∃ wo : World, wo = wr := ⟨_, rfl⟩
      subst hwo
      go_wp2_with fail
      go_loopw [5, 8] (fun v i wi => ∃ (q : Nat) (cur : List (List Int)), q ≤ on ∧ i = .int .i64 q ∧ OutG z0 w.heap.size wi v cur ∧ Inv n cur ∧ Hid (addTo s (out.drop q) cur = addTo s out out) ∧ Below wo.heap.size wo wi) (fun _ i _ => on - (intOf i).toNat)
      case atStart => exact ⟨0, out, Nat.zero_le _, rfl, ⟨ob, oo, on, oc, rfl, hoc, hoz, ⟨vo, hvo, hfo⟩, ho⟩, hinv, rfl, Below.refl _ _⟩
      case round =>
        obtain ⟨q, cur, hq, rfl, ⟨qb, qo, qn, qc, rfl, hqc, hqz, ⟨vq, hvq, hfq⟩, hcur⟩, hinv', HQ, hTi⟩ := hrel
        replace h := h.next stab_RVI hTi
        replace ho := ho.next stab_RG hTi
        replace hs := hs.next stab_RI hTi
        have hzi : z0 < wr.heap.size := Nat.lt_of_lt_of_le hzr hTi.size
        have hloi : w.heap.size ≤ wr.heap.size := Nat.le_trans hT.size hTi.size
        by_cases hltq : q < on
        · obtain ⟨v, t, hct, ⟨Bt, jt, dt, rfl, htt, -⟩, hdt, hxt⟩ := ho.at' hltq
          have H2 := Lib.hid hdt
          have hqn := inv_len hinv' hn
          rw [hcur.len] at hqn
          have hjt : jt ≤ 1048576 := by
            have h1 := (set_sub (hinv.2 t (List.mem_of_getElem? hxt))).length_le
            rw [upTo_len, htt.len] at h1
            omega
          have HXT := Lib.hid (List.mem_of_getElem? hxt)
          clear hxt hdt
          have hq0 : (0 : Int) ≤ (q : Int) := by omega
          have hq1 : (q : Int) < (on : Int) := by omega
          have hk0 : (0 : Int) ≤ (k : Int) := by omega
          have hk1 : (k : Int) < (m : Int) := by omega
          have hcs : wr.cell? ⟨b, o + k, none⟩ = some (.slice B j d) := (hTi.cell (p := ⟨b, o + k, none⟩) (cell_lt hc)).trans hc
          clear hc
          go_wp2
          go_region_held3 (fun w' => w'.cell? ⟨ob, oo + q, none⟩ = some (.slice Bt jt dt) ∧ w'.cell? ⟨b, o + k, none⟩ = some (.slice B j d)) (first | go_keep | exact ⟨(hb2.cell (p := ⟨ob, oo + q, none⟩) (cell_lt hct)).trans hct, (hb2.cell (p := ⟨b, o + k, none⟩) (cell_lt hcs)).trans hcs⟩ | exact ⟨(hb3.cell (p := ⟨ob, oo + q, none⟩) (Nat.lt_of_lt_of_le (cell_lt hct) hb2.size)).trans ((hb2.cell (p := ⟨ob, oo + q, none⟩) (cell_lt hct)).trans hct), (hb3.cell (p := ⟨b, o + k, none⟩) (Nat.lt_of_lt_of_le (cell_lt hcs) hb2.size)).trans ((hb2.cell (p := ⟨b, o + k, none⟩) (cell_lt hcs)).trans hcs)⟩) (first | (go_at_call 44; refine (l30Meet_any _ _ _ _ _ _ _ _ _ (htt.drew stab_RI) (hs.drew stab_RI) hjt).mono ?_; rintro e w2 ⟨A2, n2, c2, rfl, how, hb2⟩) | (go_at_call 76; refine (l30Put_off z0 _ _ _ _ _ _ _ _ _ _ ((hcur.drew stab_RG).next stab_RG hb2) (rd_of_own (R := RI) how (fun x hx => ⟨rfl, meetL_bounds htt x hx⟩)) (by have h1 := hb2.size; first | (simp at h1; omega) | (simp at h1 ⊢; omega) | omega) (own_off how (by first | omega | (simp; omega))) hqz (by have h1 := hb2.size; first | (simp at h1; omega) | (simp at h1 ⊢; omega) | omega) (own_next (w := wr.drew) hvq hb2) hfq hqc (by omega)).mono ?_; rintro e w3 ⟨b3, o3, n3, c3, rfl, hc3, hz3, ⟨v3, hv3, hf3⟩, hr3, hb3⟩))
          have hT3 : Below wo.heap.size wo w3 := below_next (below_next (Below.drew hTi) hb2 rfl) hb3 rfl
          go_wp2
          go_roundw
          case rel => exact ⟨q + 1, putL (meetL s t) cur, by omega, by go_num, ⟨_, _, _, _, rfl, hc3, hz3, ⟨_, hv3, hf3⟩, hr3⟩, hinv'.putMeet (hinv.2 t HXT.out) s, by rw [← HQ.out, H2.out]; rfl, hT3⟩
          case measure => simp [intOf]; omega
        · have hend : Hid (cur = addTo s out out) := by rw [← HQ.out, ho.drop_end hltq]; rfl
          go_wp2
          go_roundw
          case rel => exact ⟨k + 1, addTo s out out, by omega, by go_num, ⟨_, _, _, _, rfl, hqc, hqz, ⟨_, hvq, hfq⟩, by rw [← hend.out]; exact hcur⟩, hinv.addTo hinv.2, by rw [← H.out, H1.out]; rfl, below_next hT hTi rfl⟩
          case measure => simp [intOf]; omega
    · have hend : Hid (out = systemL n xss) := by rw [← H.out, h.drop_end hlt]; rfl
      go_wp2
      go_ret
      exact ⟨_, rfl, ⟨_, _, _, _, rfl, hoc, hoz, ⟨_, hvo, hfo⟩, by rw [← hend.out]; exact ho⟩, hT⟩

end Go.Proofs.YtlncpabnlnipoaaGreat
