
/- Walks of the reference's sorted insertion, and of its closure systems. -/
import Derived.Test.YtlncpabnlnipoaaGreatSystem
import Derived.Deep.RegionLaw
import Derived.Deep.RegionHeld3
namespace Go.Proofs.YtlncpabnlnipoaaGreat
open Go.RowKit

/-- A slice value by its parts. -/
abbrev SlT := Option Addr × Nat × Nat
def slV (t : SlT) : Value := .slice t.1 t.2.1 t.2.2
def RSl (_ : World) (v : Value) (t : SlT) : Prop := v = slV t
theorem stab_RSl : Stab RSl := fun _ _ _ _ _ h => h
theorem choose_list {α : Type} {p : Nat → α → Prop} (n : Nat) (h : ∀ (k : Nat), k < n → ∃ x, p k x) : ∃ l : List α, l.length = n ∧ ∀ (k : Nat) x, l[k]? = some x → p k x := by
  induction n with
  | zero => exact ⟨[], rfl, fun k x hx => by simp at hx⟩
  | succ n ih =>
    obtain ⟨l, hl, hp⟩ := ih fun k hk => h k (by omega)
    obtain ⟨x, hx⟩ := h n (by omega)
    refine ⟨l ++ [x], by simp [hl], fun k y hy => ?_⟩
    rcases Nat.lt_or_ge k n with _ | _
    · rw [List.getElem?_append_left (by omega)] at hy
      exact hp k y hy
    · have hk2 := (List.getElem?_eq_some_iff.1 hy).1
      simp at hk2
      have hkn : k = n := by omega
      subst hkn
      rw [List.getElem?_append_right (by omega), hl, Nat.sub_self] at hy
      simp at hy
      subst hy
      exact hx
/-- The places of the inner slices. -/
theorem RdL.raw {α : Type} {R : World → Value → α → Prop} {w : World} {A : Option Addr} {n : Nat} {xss : List (List α)} (h : RdL (RV R) w A n xss) :
    ∃ ts : List SlT, RdL RSl w A n ts ∧ ∀ (k : Nat) t xs, ts[k]? = some t → xss[k]? = some xs → RdL R w t.1 t.2.1 xs := by
  obtain ⟨ts, hl, hp⟩ := choose_list (p := fun k (t : SlT) => ∃ b o xs, A = some ⟨b, o, none⟩ ∧ w.cell? ⟨b, o + k, none⟩ = some (slV t) ∧ xss[k]? = some xs ∧ RdL R w t.1 t.2.1 xs) n (fun k hk => by
    obtain ⟨b, o, v, xs, e, hc, ⟨B, m, c, rfl, hr⟩, -, hx⟩ := h.at hk
    exact ⟨(B, m, c), b, o, xs, e, hc, hx, hr⟩)
  refine ⟨ts, ⟨hl, h.2.1, fun k t hk => ?_⟩, fun k t xs ht hx => ?_⟩
  · obtain ⟨b, o, xs, e, hc, -, -⟩ := hp k t hk
    exact ⟨b, o, slV t, e, hc, rfl⟩
  · obtain ⟨b, o, ys, -, -, hy, hr⟩ := hp k t ht
    rw [hx] at hy
    injection hy with hy
    rw [hy]
    exact hr
/-- .. and back: a row of the call's own that holds such places. -/
theorem rd_of_raw {α : Type} {R : World → Value → α → Prop} {w : World} {base : Nat} {e : TypeId} {A : Option Addr} {n c : Nat} {ts : List SlT} {xss : List (List α)} (hl : ts.length = xss.length) (h : w.ownsRow base e 1 (.slice A n c) n (ts.map slV))
    (hR : ∀ (k : Nat) t xs, ts[k]? = some t → xss[k]? = some xs → RdL R w t.1 t.2.1 xs) : RdL (RV R) w A n xss := by
  have hn := rd_of_own (R := RSl) h (fun x _ => rfl)
  refine ⟨by rw [← hl, hn.1], hn.2.1, fun k xs hk => ?_⟩
  have hkl : k < ts.length := by rw [hl]; exact (List.getElem?_eq_some_iff.1 hk).1
  obtain ⟨b, o, v, e, hc, hv⟩ := hn.2.2 k ts[k] (List.getElem?_eq_getElem hkl)
  exact ⟨b, o, v, e, hc, ts[k].1, ts[k].2.1, ts[k].2.2, hv, hR k _ xs (List.getElem?_eq_getElem hkl) hk⟩
theorem RdL.drop {α : Type} {R : World → Value → α → Prop} {w : World} {b o n : Nat} {xs : List α} (h : RdL R w (some ⟨b, o, none⟩) n xs) (k : Nat) : RdL R w (some ⟨b, o + k, none⟩) (n - k) (xs.drop k) := by
  refine ⟨by rw [List.length_drop, h.1], Nat.le_trans (Nat.sub_le _ _) h.2.1, fun j x hj => ?_⟩
  rw [List.getElem?_drop] at hj
  obtain ⟨b', o', v, e, hc, hr⟩ := h.2.2 (k + j) x hj
  simp only [Option.some.injEq, Addr.mk.injEq, and_true] at e
  obtain ⟨rfl, rfl⟩ := e
  exact ⟨b, o + k, v, rfl, by rw [Nat.add_assoc]; exact hc, hr⟩

theorem rd_cell {w : World} {g : Nat} {t : SlT} (h : w.cell? ⟨g, 0, none⟩ = some (slV t)) : RdL RSl w (some ⟨g, 0, none⟩) 1 [t] := by
  refine ⟨rfl, by unfold maxLen; omega, fun k x hk => ?_⟩
  have hk1 := (List.getElem?_eq_some_iff.1 hk).1
  simp at hk1
  subst hk1
  simp at hk
  subst hk
  exact ⟨g, 0, slV t, rfl, h, rfl⟩
theorem lit0 {B : Nat} {e : TypeId} (w : World) (hB : w.heap.size = B) : (w.alloc (.cells #[] e)).ownsRow B e 1 (.slice (some ⟨B, 0, none⟩) 0 0) 0 [] := by
  subst hB
  exact World.ownsRow_lit _ _ _ (Nat.le_refl _) (Nat.zero_le _) rfl
theorem lit1 {B : Nat} {e : TypeId} (w : World) (hB : w.heap.size = B + 1) : (w.alloc (.cells #[] e)).ownsRow B e 1 (.slice (some ⟨B + 1, 0, none⟩) 0 0) 0 [] := by
  rw [← hB]
  exact World.ownsRow_lit _ _ _ (by omega) (Nat.zero_le _) rfl

theorem cell_new {B : Nat} {e : TypeId} {u : Value} (w : World) (hB : w.heap.size = B) : (w.alloc (.cells #[u] e)).cell? ⟨B, 0, none⟩ = some u := by
  subst hB
  exact (Blk.new w e #[u]).cell 0
theorem cell_new2 {B : Nat} {e : TypeId} {u : Value} (w : World) (o : Obj) (hB : w.heap.size = B) : ((w.alloc (.cells #[u] e)).alloc o).cell? ⟨B, 0, none⟩ = some u := by
  subst hB
  exact ((Blk.new w e #[u]).alloc o).cell 0

/-- Does p go ahead of q? Shorter lists first, then by the numbers. -/
def lessT (p q : List Int) : Bool := decide (p.length < q.length) || (decide (p.length = q.length) && lessL p q)
def insPos (p : List Int) (xss : List (List Int)) : Nat → Nat
  | 0 => 0
  | k + 1 => if lessT p (xss.getD k []) then insPos p xss k else k + 1
theorem insPos_le (p : List Int) (xss : List (List Int)) : ∀ n, insPos p xss n ≤ n
  | 0 => Nat.le_refl _
  | k + 1 => by have := insPos_le p xss k; rw [insPos]; split <;> omega
def insT (p : List Int) (xss : List (List Int)) : List (List Int) := xss.take (insPos p xss xss.length) ++ p :: xss.drop (insPos p xss xss.length)

theorem own_form {w : World} {base : Nat} {e : TypeId} {size : Nat} {A : Option Addr} {n c : Nat} {xs : List Value} (h : w.ownsRow base e size (.slice A n c) n xs) (hn : 0 < n) : ∃ g, A = some ⟨g, 0, none⟩ ∧ base ≤ g ∧ n ≤ c := by
  rcases h.2 with ⟨h0, h1⟩ | ⟨g, cap, cur, hv, hb, _, hnc, _⟩
  · omega
  · injection hv with hA _ hc
    exact ⟨g, hA, hb, by omega⟩
theorem sort_cap {w : World} {base : Nat} {e : TypeId} {size : Nat} {A : Option Addr} {n c : Nat} {xs : List Value} (h : w.ownsRow base e size (.slice A n c) n xs) : n ≤ c := by
  rcases h.2 with ⟨h0, h1⟩ | ⟨g, cap, cur, hv, _, _, hnc, _⟩
  · omega
  · injection hv with _ _ hc
    omega
theorem sort_res {w : World} {base : Nat} {e : TypeId} {A B : Option Addr} {n c m d k : Nat} {ts : List SlT} {xss : List (List Int)} {p : List Int} (h : w.ownsRow base e 1 (.slice A (n + 1) c) (n + 1) ((ts.take k ++ (B, m, d) :: ts.drop k).map slV))
    (hts : ts.length = n) (hx : xss.length = n) (hk : insPos p xss n = k) (hkn : k ≤ n) (hR : ∀ (j : Nat) t xs, ts[j]? = some t → xss[j]? = some xs → RdL RI w t.1 t.2.1 xs) (hp : RdL RI w B m p) : RdL (RV RI) w A (n + 1) (insT p xss) := by
  have hI : insT p xss = xss.take k ++ p :: xss.drop k := by unfold insT; rw [hx, hk]
  rw [hI]
  refine rd_of_raw (by simp [hts, hx]) h fun j t xs ht hxs => ?_
  have l1 : (ts.take k).length = k := by rw [List.length_take, hts]; omega
  have l2 : (xss.take k).length = k := by rw [List.length_take, hx]; omega
  rcases Nat.lt_trichotomy j k with hj | hj | hj
  · rw [List.getElem?_append_left (by omega), List.getElem?_take, if_pos hj] at ht hxs
    exact hR j t xs ht hxs
  · subst hj
    rw [List.getElem?_append_right (by omega), l1, Nat.sub_self] at ht
    rw [List.getElem?_append_right (by omega), l2, Nat.sub_self] at hxs
    simp at ht hxs
    subst ht
    subst hxs
    exact hp
  · rw [List.getElem?_append_right (by omega), l1] at ht
    rw [List.getElem?_append_right (by omega), l2] at hxs
    obtain ⟨i, hi⟩ : ∃ i, j - k = i + 1 := ⟨j - k - 1, by omega⟩
    rw [hi, List.getElem?_cons_succ, List.getElem?_drop] at ht hxs
    exact hR _ t xs ht hxs

set_option maxHeartbeats 2000000 in
theorem l5Sort_any (b o n c : Nat) (B : Option Addr) (m d : Nat) (xss : List (List Int)) (p : List Int) (w : World) (h : RdL (RV RI) w (some ⟨b, o, none⟩) n xss) (hp : RdL RI w B m p) (hc : n ≤ c) (hn : n ≤ 1048576) :
    Calls Tryz.prog 56 #[.slice (some ⟨b, o, none⟩) n c, .slice B m d] w fun e w' => ∃ g c', e = .returned (.slice (some ⟨g, 0, none⟩) (n + 1) c') ∧ n + 1 ≤ c' ∧ RdL (RV RI) w' (some ⟨g, 0, none⟩) (n + 1) (insT p xss) ∧ Below w.heap.size w w' := by
  have hle := h.le
  have hlen := Lib.hid h.len
  have hplen := Lib.hid hp.len
  go_enter Tryz.func56, Tryz.ntmps56
  go_wp2
  go_loopw [5] (fun i wr => ∃ k : Nat, k ≤ n ∧ i = .int .i64 k ∧ Hid (insPos p xss k = insPos p xss n) ∧ Drawn w wr) (fun i _ => (intOf i).toNat)
  case atStart => exact ⟨n, Nat.le_refl _, rfl, rfl, Drawn.zero _⟩
  case round =>
    obtain ⟨k, hk, rfl, H, z, rfl⟩ := hrel
    by_cases hk0 : 0 < k
    · have hi0 : (0 : Int) < (k : Int) := by omega
      have hi1 : (0 : Int) ≤ (k : Int) - 1 := by omega
      have hi2 : (k : Int) - 1 < (n : Int) := by omega
      obtain ⟨v, q, hcq, ⟨Q, j, dq, rfl, hq⟩, -, hx⟩ := h.at' (k := k - 1) (by omega)
      have hqlen := Lib.hid hq.len
      have HS : Hid (insPos p xss k = if lessT p q then insPos p xss (k - 1) else k) := by
        obtain ⟨k', rfl⟩ : ∃ k', k = k' + 1 := ⟨k - 1, by omega⟩
        simp at hx
        show insPos p xss (k' + 1) = _
        rw [insPos, List.getD_eq_getElem?_getD, hx]
        rfl
      clear hx
      by_cases h1 : m < j
      · go_wp2
        go_roundw
        case rel => exact ⟨k - 1, by omega, by rw [show ((k : Int) - 1) = ((k - 1 : Nat) : Int) from by omega], by rw [← H.out, HS.out, show lessT p q = true by unfold lessT; simp [hplen.out, hqlen.out, h1]]; rfl, (by first | exact Drawn.zero _ | exact Drawn.at_ _ _ | exact (Drawn.at_ _ _).more _ | exact ((Drawn.at_ _ _).more _).more _)⟩
        case measure => simp [intOf]; omega
      · by_cases h2 : m = j
        · subst h2
          rcases hl : lessL p q with _ | _
          · have HL := Lib.hid hl
            have HP : Hid (insPos p xss n = k) := by
              show _ = _
              rw [← H.out, HS.out, show lessT p q = false by unfold lessT; simp [hplen.out, hqlen.out, HL.out]]; rfl
            go_wp2_with (go_at_call 74; refine (l5Less_any _ _ _ _ _ _ _ _ (hp.drewN stab_RI _) (hq.drewN stab_RI _)).mono ?_; rintro e w' ⟨rfl, z', rfl⟩)
            have hk1 : (k : Int) ≤ (c : Int) := by omega
            have hk2 : (0 : Int) ≤ (k : Int) := by omega
            have hk3 : (k : Int) ≤ (n : Int) := by omega
            obtain ⟨ts, hts, htr⟩ := h.raw
            have HTS := Lib.hid hts.len
            by_cases hkc : c = k
            · have hnk : n = k := by omega
              have HD0 : Hid (ts.drop k = []) := List.drop_eq_nil_of_le (by rw [HTS.out]; omega)
              have HNK := Lib.hid hnk
              subst hkc
              go_region_law (first
                | (refine step_appAny _ rfl (.tmp 43) (.tmp 46) 24 25 rfl (.slice none 0 0) 24 Tryz.underlying24 info_ints rfl (by decide) w.heap.size 0 0 (some ⟨w.heap.size, 0, none⟩) [] (by rfl) (by first | exact lit0 _ (by simp) | exact (lit0 _ (by simp)).alloc _) (some ⟨b, o, none⟩) c c (ts.take c) slV (fun _ => rfl) (by rfl) ((hts.take (k := c) (by omega)).next stab_RSl (by first | exact (below_drewN (Below.refl _ _) _).alloc (by simp) _ | exact ((below_drewN (Below.refl _ _) _).alloc (by simp) _).alloc (by first | (simp; done) | (simp; omega)) _)) (fun _ _ _ hr => hr) (by omega) (by first | (simp; done) | (simp; omega)) ?_; intro A2 c2 w2 hown2 hg2 hb2; simp only [Nat.zero_add, List.nil_append] at hown2)
                | (refine step_appAny _ rfl (.tmp 43) (.tmp 46) 24 25 rfl (.slice none 0 0) 24 Tryz.underlying24 info_ints rfl (by decide) w.heap.size 0 0 (some ⟨w.heap.size + 1, 0, none⟩) [] (by rfl) (lit1 _ (by simp)) (some ⟨b, o, none⟩) c c (ts.take c) slV (fun _ => rfl) (by rfl) ((hts.take (k := c) (by omega)).next stab_RSl (by first | exact (below_drewN (Below.refl _ _) _).alloc (by simp) _ | exact ((below_drewN (Below.refl _ _) _).alloc (by simp) _).alloc (by first | (simp; done) | (simp; omega)) _)) (fun _ _ _ hr => hr) (by omega) (by first | (simp; done) | (simp; omega)) ?_; intro A2 c2 w2 hown2 hg2 hb2; simp only [Nat.zero_add, List.nil_append] at hown2)
                | (refine step_appAny (R := RSl) _ rfl (.tmp 47) (.tmp 49) 24 25 rfl (.slice none 0 0) 24 Tryz.underlying24 info_ints rfl (by decide) w.heap.size c c2 A2 ((ts.take c).map slV) (by rfl) (hown2.alloc _) (some ⟨w2.heap.size, 0, none⟩) 1 1 [(B, m, d)] slV (fun _ => rfl) (by rfl) (rd_cell (t := (B, m, d)) (cell_new _ rfl)) (fun _ _ _ hr => hr) (by omega) (by have h1 := hb2.size; first | (simp at h1; omega) | (simp at h1 ⊢; omega) | (simp; omega) | omega) ?_; intro A3 c3 w3 hown3 hg3 hb3)
                | (refine step_appAny (R := RSl) _ rfl (.tmp 47) (.tmp 49) 24 25 rfl (.slice none 0 0) 24 Tryz.underlying24 info_ints rfl (by decide) w.heap.size c c2 A2 ((ts.take c).map slV) (by rfl) hown2 (some ⟨w.heap.size + 1, 0, none⟩) 1 1 [(B, m, d)] slV (fun _ => rfl) (by rfl) (rd_cell (t := (B, m, d)) (hg2.cell (v := slV (B, m, d)) (cell_new _ (by simp)) (by simp [Value.ownBlock]))) (fun _ _ _ hr => hr) (by omega) (by have h1 := hb2.size; first | (simp at h1; omega) | (simp at h1 ⊢; omega) | (simp; omega) | omega) ?_; intro A3 c3 w3 hown3 hg3 hb3)
                | (refine step_appAny (R := RSl) _ rfl (.tmp 47) (.tmp 49) 24 25 rfl (.slice none 0 0) 24 Tryz.underlying24 info_ints rfl (by decide) w.heap.size c c2 A2 ((ts.take c).map slV) (by rfl) hown2 (some ⟨w.heap.size, 0, none⟩) 1 1 [(B, m, d)] slV (fun _ => rfl) (by rfl) (rd_cell (t := (B, m, d)) (hg2.cell (v := slV (B, m, d)) (cell_new2 _ _ (by simp)) (by simp [Value.ownBlock]))) (fun _ _ _ hr => hr) (by omega) (by have h1 := hb2.size; first | (simp at h1; omega) | (simp at h1 ⊢; omega) | (simp; omega) | omega) ?_; intro A3 c3 w3 hown3 hg3 hb3)
                | (refine step_appAny _ rfl (.tmp 50) (.tmp 53) 24 25 rfl (.slice none 0 0) 24 Tryz.underlying24 info_ints rfl (by decide) w.heap.size (c + 1) c3 A3 ((ts.take c).map slV ++ [slV (B, m, d)]) (by rfl) hown3 (some ⟨b, o, none⟩) 0 0 ([] : List SlT) slV (fun _ => rfl) (by rfl) (RdL.nil _ _ _) (fun _ _ _ hr => hr) (by omega) (by have h1 := hb2.size; have h2 := hb3.size; first | (simp at h1; omega) | (simp at h1 h2; omega) | (simp at h2; omega) | omega) ?_; intro A4 c4 w4 hown4 hg4 hb4))
              all_goals
                have hF3 : Below w.heap.size w w3 := (by refine Below.trans ?_ hb3; first | (refine Below.trans ?_ hb2; first | exact (below_drewN (Below.refl _ _) _).alloc (by simp) _ | exact ((below_drewN (Below.refl _ _) _).alloc (by simp) _).alloc (by first | (simp; done) | (simp; omega)) _) | (refine Below.alloc ?_ (by have h1 := hb2.size; first | (simp at h1; omega) | omega) _; refine Below.trans ?_ hb2; first | exact (below_drewN (Below.refl _ _) _).alloc (by simp) _ | exact ((below_drewN (Below.refl _ _) _).alloc (by simp) _).alloc (by first | (simp; done) | (simp; omega)) _))
                have hF := hF3.trans hb4
                have e1 : c + 1 + 0 = n + 1 := by omega
                rw [e1] at hown4
                have eL : (ts.take c).map slV ++ [slV (B, m, d)] ++ (([] : List SlT)).map slV = ((ts.take c) ++ (B, m, d) :: ts.drop c).map slV := by simp [HD0.out]
                rw [eL] at hown4
                obtain ⟨g4, hA4, -, hcap⟩ := own_form hown4 (by omega)
                have hres := sort_res (p := p) hown4 HTS.out hlen.out HP.out (by omega) (fun j t xs ht hx => (htr j t xs ht hx).next stab_RI hF) (hp.next stab_RI hF)
                rw [hA4] at hres
                have HA4 := Lib.hid hA4
                clear hA4 e1 eL
                go_wp2
                go_ret
                exact ⟨g4, c4, by rw [← HA4.out, HNK.out]; rfl, hcap, hres, hF⟩
            · go_region_law (first
                | (refine step_appAny _ rfl (.tmp 43) (.tmp 46) 24 25 rfl (.slice none 0 0) 24 Tryz.underlying24 info_ints rfl (by decide) w.heap.size 0 0 (some ⟨w.heap.size, 0, none⟩) [] (by rfl) (by first | exact lit0 _ (by simp) | exact (lit0 _ (by simp)).alloc _) (some ⟨b, o, none⟩) k c (ts.take k) slV (fun _ => rfl) (by rfl) ((hts.take (k := k) (by omega)).next stab_RSl (by first | exact (below_drewN (Below.refl _ _) _).alloc (by simp) _ | exact ((below_drewN (Below.refl _ _) _).alloc (by simp) _).alloc (by first | (simp; done) | (simp; omega)) _)) (fun _ _ _ hr => hr) (by omega) (by first | (simp; done) | (simp; omega)) ?_; intro A2 c2 w2 hown2 hg2 hb2; simp only [Nat.zero_add, List.nil_append] at hown2)
                | (refine step_appAny _ rfl (.tmp 43) (.tmp 46) 24 25 rfl (.slice none 0 0) 24 Tryz.underlying24 info_ints rfl (by decide) w.heap.size 0 0 (some ⟨w.heap.size + 1, 0, none⟩) [] (by rfl) (lit1 _ (by simp)) (some ⟨b, o, none⟩) k c (ts.take k) slV (fun _ => rfl) (by rfl) ((hts.take (k := k) (by omega)).next stab_RSl (by first | exact (below_drewN (Below.refl _ _) _).alloc (by simp) _ | exact ((below_drewN (Below.refl _ _) _).alloc (by simp) _).alloc (by first | (simp; done) | (simp; omega)) _)) (fun _ _ _ hr => hr) (by omega) (by first | (simp; done) | (simp; omega)) ?_; intro A2 c2 w2 hown2 hg2 hb2; simp only [Nat.zero_add, List.nil_append] at hown2)
                | (refine step_appAny (R := RSl) _ rfl (.tmp 47) (.tmp 49) 24 25 rfl (.slice none 0 0) 24 Tryz.underlying24 info_ints rfl (by decide) w.heap.size k c2 A2 ((ts.take k).map slV) (by rfl) (hown2.alloc _) (some ⟨w2.heap.size, 0, none⟩) 1 1 [(B, m, d)] slV (fun _ => rfl) (by rfl) (rd_cell (t := (B, m, d)) (cell_new _ rfl)) (fun _ _ _ hr => hr) (by omega) (by have h1 := hb2.size; first | (simp at h1; omega) | (simp at h1 ⊢; omega) | (simp; omega) | omega) ?_; intro A3 c3 w3 hown3 hg3 hb3)
                | (refine step_appAny (R := RSl) _ rfl (.tmp 47) (.tmp 49) 24 25 rfl (.slice none 0 0) 24 Tryz.underlying24 info_ints rfl (by decide) w.heap.size k c2 A2 ((ts.take k).map slV) (by rfl) hown2 (some ⟨w.heap.size + 1, 0, none⟩) 1 1 [(B, m, d)] slV (fun _ => rfl) (by rfl) (rd_cell (t := (B, m, d)) (hg2.cell (v := slV (B, m, d)) (cell_new _ (by simp)) (by simp [Value.ownBlock]))) (fun _ _ _ hr => hr) (by omega) (by have h1 := hb2.size; first | (simp at h1; omega) | (simp at h1 ⊢; omega) | (simp; omega) | omega) ?_; intro A3 c3 w3 hown3 hg3 hb3)
                | (refine step_appAny (R := RSl) _ rfl (.tmp 47) (.tmp 49) 24 25 rfl (.slice none 0 0) 24 Tryz.underlying24 info_ints rfl (by decide) w.heap.size k c2 A2 ((ts.take k).map slV) (by rfl) hown2 (some ⟨w.heap.size, 0, none⟩) 1 1 [(B, m, d)] slV (fun _ => rfl) (by rfl) (rd_cell (t := (B, m, d)) (hg2.cell (v := slV (B, m, d)) (cell_new2 _ _ (by simp)) (by simp [Value.ownBlock]))) (fun _ _ _ hr => hr) (by omega) (by have h1 := hb2.size; first | (simp at h1; omega) | (simp at h1 ⊢; omega) | (simp; omega) | omega) ?_; intro A3 c3 w3 hown3 hg3 hb3)
                | (refine step_appAny _ rfl (.tmp 50) (.tmp 53) 24 25 rfl (.slice none 0 0) 24 Tryz.underlying24 info_ints rfl (by decide) w.heap.size (k + 1) c3 A3 ((ts.take k).map slV ++ [slV (B, m, d)]) (by rfl) hown3 (some ⟨b, o + k, none⟩) (n - k) (c - k) (ts.drop k) slV (fun _ => rfl) (by rfl) ((hts.drop k).next stab_RSl (by refine Below.trans ?_ hb3; first | (refine Below.trans ?_ hb2; first | exact (below_drewN (Below.refl _ _) _).alloc (by simp) _ | exact ((below_drewN (Below.refl _ _) _).alloc (by simp) _).alloc (by first | (simp; done) | (simp; omega)) _) | (refine Below.alloc ?_ (by have h1 := hb2.size; first | (simp at h1; omega) | omega) _; refine Below.trans ?_ hb2; first | exact (below_drewN (Below.refl _ _) _).alloc (by simp) _ | exact ((below_drewN (Below.refl _ _) _).alloc (by simp) _).alloc (by first | (simp; done) | (simp; omega)) _))) (fun _ _ _ hr => hr) (by omega) (by have h1 := hb2.size; have h2 := hb3.size; first | (simp at h1; omega) | (simp at h1 h2; omega) | (simp at h2; omega) | omega) ?_; intro A4 c4 w4 hown4 hg4 hb4))
              all_goals
                have hF3 : Below w.heap.size w w3 := (by refine Below.trans ?_ hb3; first | (refine Below.trans ?_ hb2; first | exact (below_drewN (Below.refl _ _) _).alloc (by simp) _ | exact ((below_drewN (Below.refl _ _) _).alloc (by simp) _).alloc (by first | (simp; done) | (simp; omega)) _) | (refine Below.alloc ?_ (by have h1 := hb2.size; first | (simp at h1; omega) | omega) _; refine Below.trans ?_ hb2; first | exact (below_drewN (Below.refl _ _) _).alloc (by simp) _ | exact ((below_drewN (Below.refl _ _) _).alloc (by simp) _).alloc (by first | (simp; done) | (simp; omega)) _))
                have hF := hF3.trans hb4
                have e1 : k + 1 + (n - k) = n + 1 := by omega
                rw [e1] at hown4
                have eL : (ts.take k).map slV ++ [slV (B, m, d)] ++ (ts.drop k).map slV = ((ts.take k) ++ (B, m, d) :: ts.drop k).map slV := by simp
                rw [eL] at hown4
                obtain ⟨g4, hA4, -, hcap⟩ := own_form hown4 (by omega)
                have hres := sort_res (p := p) hown4 HTS.out hlen.out HP.out (by omega) (fun j t xs ht hx => (htr j t xs ht hx).next stab_RI hF) (hp.next stab_RI hF)
                rw [hA4] at hres
                have HA4 := Lib.hid hA4
                clear hA4 e1 eL
                go_wp2
                go_ret
                exact ⟨g4, c4, by rw [← HA4.out, show k + 1 + (n - k) = n + 1 from by omega]; rfl, hcap, hres, hF⟩
          · have HL := Lib.hid hl
            go_wp2_with (go_at_call 74; refine (l5Less_any _ _ _ _ _ _ _ _ (hp.drewN stab_RI _) (hq.drewN stab_RI _)).mono ?_; rintro e w' ⟨rfl, z', rfl⟩)
            go_roundw
            case rel => exact ⟨k - 1, by omega, by rw [show ((k : Int) - 1) = ((k - 1 : Nat) : Int) from by omega], by rw [← H.out, HS.out, show lessT p q = true by unfold lessT; simp [hplen.out, hqlen.out, HL.out]]; rfl, (by first | exact Drawn.zero _ | exact Drawn.at_ _ _ | exact (Drawn.at_ _ _).more _ | exact ((Drawn.at_ _ _).more _).more _)⟩
            case measure => simp [intOf]; omega
        · have hne : ((m : Int) == (j : Int)) = false := by simp; omega
          have HP : Hid (insPos p xss n = k) := by
            show _ = _
            rw [← H.out, HS.out, show lessT p q = false by unfold lessT; simp [hplen.out, hqlen.out, h1, h2]]; rfl
          go_wp2
          have hk1 : (k : Int) ≤ (c : Int) := by omega
          have hk2 : (0 : Int) ≤ (k : Int) := by omega
          have hk3 : (k : Int) ≤ (n : Int) := by omega
          obtain ⟨ts, hts, htr⟩ := h.raw
          have HTS := Lib.hid hts.len
          by_cases hkc : c = k
          · have hnk : n = k := by omega
            have HD0 : Hid (ts.drop k = []) := List.drop_eq_nil_of_le (by rw [HTS.out]; omega)
            have HNK := Lib.hid hnk
            subst hkc
            go_region_law (first
              | (refine step_appAny _ rfl (.tmp 43) (.tmp 46) 24 25 rfl (.slice none 0 0) 24 Tryz.underlying24 info_ints rfl (by decide) w.heap.size 0 0 (some ⟨w.heap.size, 0, none⟩) [] (by rfl) (by first | exact lit0 _ (by simp) | exact (lit0 _ (by simp)).alloc _) (some ⟨b, o, none⟩) c c (ts.take c) slV (fun _ => rfl) (by rfl) ((hts.take (k := c) (by omega)).next stab_RSl (by first | exact (below_drewN (Below.refl _ _) _).alloc (by simp) _ | exact ((below_drewN (Below.refl _ _) _).alloc (by simp) _).alloc (by first | (simp; done) | (simp; omega)) _)) (fun _ _ _ hr => hr) (by omega) (by first | (simp; done) | (simp; omega)) ?_; intro A2 c2 w2 hown2 hg2 hb2; simp only [Nat.zero_add, List.nil_append] at hown2)
              | (refine step_appAny _ rfl (.tmp 43) (.tmp 46) 24 25 rfl (.slice none 0 0) 24 Tryz.underlying24 info_ints rfl (by decide) w.heap.size 0 0 (some ⟨w.heap.size + 1, 0, none⟩) [] (by rfl) (lit1 _ (by simp)) (some ⟨b, o, none⟩) c c (ts.take c) slV (fun _ => rfl) (by rfl) ((hts.take (k := c) (by omega)).next stab_RSl (by first | exact (below_drewN (Below.refl _ _) _).alloc (by simp) _ | exact ((below_drewN (Below.refl _ _) _).alloc (by simp) _).alloc (by first | (simp; done) | (simp; omega)) _)) (fun _ _ _ hr => hr) (by omega) (by first | (simp; done) | (simp; omega)) ?_; intro A2 c2 w2 hown2 hg2 hb2; simp only [Nat.zero_add, List.nil_append] at hown2)
              | (refine step_appAny (R := RSl) _ rfl (.tmp 47) (.tmp 49) 24 25 rfl (.slice none 0 0) 24 Tryz.underlying24 info_ints rfl (by decide) w.heap.size c c2 A2 ((ts.take c).map slV) (by rfl) (hown2.alloc _) (some ⟨w2.heap.size, 0, none⟩) 1 1 [(B, m, d)] slV (fun _ => rfl) (by rfl) (rd_cell (t := (B, m, d)) (cell_new _ rfl)) (fun _ _ _ hr => hr) (by omega) (by have h1 := hb2.size; first | (simp at h1; omega) | (simp at h1 ⊢; omega) | (simp; omega) | omega) ?_; intro A3 c3 w3 hown3 hg3 hb3)
              | (refine step_appAny (R := RSl) _ rfl (.tmp 47) (.tmp 49) 24 25 rfl (.slice none 0 0) 24 Tryz.underlying24 info_ints rfl (by decide) w.heap.size c c2 A2 ((ts.take c).map slV) (by rfl) hown2 (some ⟨w.heap.size + 1, 0, none⟩) 1 1 [(B, m, d)] slV (fun _ => rfl) (by rfl) (rd_cell (t := (B, m, d)) (hg2.cell (v := slV (B, m, d)) (cell_new _ (by simp)) (by simp [Value.ownBlock]))) (fun _ _ _ hr => hr) (by omega) (by have h1 := hb2.size; first | (simp at h1; omega) | (simp at h1 ⊢; omega) | (simp; omega) | omega) ?_; intro A3 c3 w3 hown3 hg3 hb3)
              | (refine step_appAny (R := RSl) _ rfl (.tmp 47) (.tmp 49) 24 25 rfl (.slice none 0 0) 24 Tryz.underlying24 info_ints rfl (by decide) w.heap.size c c2 A2 ((ts.take c).map slV) (by rfl) hown2 (some ⟨w.heap.size, 0, none⟩) 1 1 [(B, m, d)] slV (fun _ => rfl) (by rfl) (rd_cell (t := (B, m, d)) (hg2.cell (v := slV (B, m, d)) (cell_new2 _ _ (by simp)) (by simp [Value.ownBlock]))) (fun _ _ _ hr => hr) (by omega) (by have h1 := hb2.size; first | (simp at h1; omega) | (simp at h1 ⊢; omega) | (simp; omega) | omega) ?_; intro A3 c3 w3 hown3 hg3 hb3)
              | (refine step_appAny _ rfl (.tmp 50) (.tmp 53) 24 25 rfl (.slice none 0 0) 24 Tryz.underlying24 info_ints rfl (by decide) w.heap.size (c + 1) c3 A3 ((ts.take c).map slV ++ [slV (B, m, d)]) (by rfl) hown3 (some ⟨b, o, none⟩) 0 0 ([] : List SlT) slV (fun _ => rfl) (by rfl) (RdL.nil _ _ _) (fun _ _ _ hr => hr) (by omega) (by have h1 := hb2.size; have h2 := hb3.size; first | (simp at h1; omega) | (simp at h1 h2; omega) | (simp at h2; omega) | omega) ?_; intro A4 c4 w4 hown4 hg4 hb4))
            all_goals
              have hF3 : Below w.heap.size w w3 := (by refine Below.trans ?_ hb3; first | (refine Below.trans ?_ hb2; first | exact (below_drewN (Below.refl _ _) _).alloc (by simp) _ | exact ((below_drewN (Below.refl _ _) _).alloc (by simp) _).alloc (by first | (simp; done) | (simp; omega)) _) | (refine Below.alloc ?_ (by have h1 := hb2.size; first | (simp at h1; omega) | omega) _; refine Below.trans ?_ hb2; first | exact (below_drewN (Below.refl _ _) _).alloc (by simp) _ | exact ((below_drewN (Below.refl _ _) _).alloc (by simp) _).alloc (by first | (simp; done) | (simp; omega)) _))
              have hF := hF3.trans hb4
              have e1 : c + 1 + 0 = n + 1 := by omega
              rw [e1] at hown4
              have eL : (ts.take c).map slV ++ [slV (B, m, d)] ++ (([] : List SlT)).map slV = ((ts.take c) ++ (B, m, d) :: ts.drop c).map slV := by simp [HD0.out]
              rw [eL] at hown4
              obtain ⟨g4, hA4, -, hcap⟩ := own_form hown4 (by omega)
              have hres := sort_res (p := p) hown4 HTS.out hlen.out HP.out (by omega) (fun j t xs ht hx => (htr j t xs ht hx).next stab_RI hF) (hp.next stab_RI hF)
              rw [hA4] at hres
              have HA4 := Lib.hid hA4
              clear hA4 e1 eL
              go_wp2
              go_ret
              exact ⟨g4, c4, by rw [← HA4.out, HNK.out]; rfl, hcap, hres, hF⟩
          · go_region_law (first
              | (refine step_appAny _ rfl (.tmp 43) (.tmp 46) 24 25 rfl (.slice none 0 0) 24 Tryz.underlying24 info_ints rfl (by decide) w.heap.size 0 0 (some ⟨w.heap.size, 0, none⟩) [] (by rfl) (by first | exact lit0 _ (by simp) | exact (lit0 _ (by simp)).alloc _) (some ⟨b, o, none⟩) k c (ts.take k) slV (fun _ => rfl) (by rfl) ((hts.take (k := k) (by omega)).next stab_RSl (by first | exact (below_drewN (Below.refl _ _) _).alloc (by simp) _ | exact ((below_drewN (Below.refl _ _) _).alloc (by simp) _).alloc (by first | (simp; done) | (simp; omega)) _)) (fun _ _ _ hr => hr) (by omega) (by first | (simp; done) | (simp; omega)) ?_; intro A2 c2 w2 hown2 hg2 hb2; simp only [Nat.zero_add, List.nil_append] at hown2)
              | (refine step_appAny _ rfl (.tmp 43) (.tmp 46) 24 25 rfl (.slice none 0 0) 24 Tryz.underlying24 info_ints rfl (by decide) w.heap.size 0 0 (some ⟨w.heap.size + 1, 0, none⟩) [] (by rfl) (lit1 _ (by simp)) (some ⟨b, o, none⟩) k c (ts.take k) slV (fun _ => rfl) (by rfl) ((hts.take (k := k) (by omega)).next stab_RSl (by first | exact (below_drewN (Below.refl _ _) _).alloc (by simp) _ | exact ((below_drewN (Below.refl _ _) _).alloc (by simp) _).alloc (by first | (simp; done) | (simp; omega)) _)) (fun _ _ _ hr => hr) (by omega) (by first | (simp; done) | (simp; omega)) ?_; intro A2 c2 w2 hown2 hg2 hb2; simp only [Nat.zero_add, List.nil_append] at hown2)
              | (refine step_appAny (R := RSl) _ rfl (.tmp 47) (.tmp 49) 24 25 rfl (.slice none 0 0) 24 Tryz.underlying24 info_ints rfl (by decide) w.heap.size k c2 A2 ((ts.take k).map slV) (by rfl) (hown2.alloc _) (some ⟨w2.heap.size, 0, none⟩) 1 1 [(B, m, d)] slV (fun _ => rfl) (by rfl) (rd_cell (t := (B, m, d)) (cell_new _ rfl)) (fun _ _ _ hr => hr) (by omega) (by have h1 := hb2.size; first | (simp at h1; omega) | (simp at h1 ⊢; omega) | (simp; omega) | omega) ?_; intro A3 c3 w3 hown3 hg3 hb3)
              | (refine step_appAny (R := RSl) _ rfl (.tmp 47) (.tmp 49) 24 25 rfl (.slice none 0 0) 24 Tryz.underlying24 info_ints rfl (by decide) w.heap.size k c2 A2 ((ts.take k).map slV) (by rfl) hown2 (some ⟨w.heap.size + 1, 0, none⟩) 1 1 [(B, m, d)] slV (fun _ => rfl) (by rfl) (rd_cell (t := (B, m, d)) (hg2.cell (v := slV (B, m, d)) (cell_new _ (by simp)) (by simp [Value.ownBlock]))) (fun _ _ _ hr => hr) (by omega) (by have h1 := hb2.size; first | (simp at h1; omega) | (simp at h1 ⊢; omega) | (simp; omega) | omega) ?_; intro A3 c3 w3 hown3 hg3 hb3)
              | (refine step_appAny (R := RSl) _ rfl (.tmp 47) (.tmp 49) 24 25 rfl (.slice none 0 0) 24 Tryz.underlying24 info_ints rfl (by decide) w.heap.size k c2 A2 ((ts.take k).map slV) (by rfl) hown2 (some ⟨w.heap.size, 0, none⟩) 1 1 [(B, m, d)] slV (fun _ => rfl) (by rfl) (rd_cell (t := (B, m, d)) (hg2.cell (v := slV (B, m, d)) (cell_new2 _ _ (by simp)) (by simp [Value.ownBlock]))) (fun _ _ _ hr => hr) (by omega) (by have h1 := hb2.size; first | (simp at h1; omega) | (simp at h1 ⊢; omega) | (simp; omega) | omega) ?_; intro A3 c3 w3 hown3 hg3 hb3)
              | (refine step_appAny _ rfl (.tmp 50) (.tmp 53) 24 25 rfl (.slice none 0 0) 24 Tryz.underlying24 info_ints rfl (by decide) w.heap.size (k + 1) c3 A3 ((ts.take k).map slV ++ [slV (B, m, d)]) (by rfl) hown3 (some ⟨b, o + k, none⟩) (n - k) (c - k) (ts.drop k) slV (fun _ => rfl) (by rfl) ((hts.drop k).next stab_RSl (by refine Below.trans ?_ hb3; first | (refine Below.trans ?_ hb2; first | exact (below_drewN (Below.refl _ _) _).alloc (by simp) _ | exact ((below_drewN (Below.refl _ _) _).alloc (by simp) _).alloc (by first | (simp; done) | (simp; omega)) _) | (refine Below.alloc ?_ (by have h1 := hb2.size; first | (simp at h1; omega) | omega) _; refine Below.trans ?_ hb2; first | exact (below_drewN (Below.refl _ _) _).alloc (by simp) _ | exact ((below_drewN (Below.refl _ _) _).alloc (by simp) _).alloc (by first | (simp; done) | (simp; omega)) _))) (fun _ _ _ hr => hr) (by omega) (by have h1 := hb2.size; have h2 := hb3.size; first | (simp at h1; omega) | (simp at h1 h2; omega) | (simp at h2; omega) | omega) ?_; intro A4 c4 w4 hown4 hg4 hb4))
            all_goals
              have hF3 : Below w.heap.size w w3 := (by refine Below.trans ?_ hb3; first | (refine Below.trans ?_ hb2; first | exact (below_drewN (Below.refl _ _) _).alloc (by simp) _ | exact ((below_drewN (Below.refl _ _) _).alloc (by simp) _).alloc (by first | (simp; done) | (simp; omega)) _) | (refine Below.alloc ?_ (by have h1 := hb2.size; first | (simp at h1; omega) | omega) _; refine Below.trans ?_ hb2; first | exact (below_drewN (Below.refl _ _) _).alloc (by simp) _ | exact ((below_drewN (Below.refl _ _) _).alloc (by simp) _).alloc (by first | (simp; done) | (simp; omega)) _))
              have hF := hF3.trans hb4
              have e1 : k + 1 + (n - k) = n + 1 := by omega
              rw [e1] at hown4
              have eL : (ts.take k).map slV ++ [slV (B, m, d)] ++ (ts.drop k).map slV = ((ts.take k) ++ (B, m, d) :: ts.drop k).map slV := by simp
              rw [eL] at hown4
              obtain ⟨g4, hA4, -, hcap⟩ := own_form hown4 (by omega)
              have hres := sort_res (p := p) hown4 HTS.out hlen.out HP.out (by omega) (fun j t xs ht hx => (htr j t xs ht hx).next stab_RI hF) (hp.next stab_RI hF)
              rw [hA4] at hres
              have HA4 := Lib.hid hA4
              clear hA4 e1 eL
              go_wp2
              go_ret
              exact ⟨g4, c4, by rw [← HA4.out, show k + 1 + (n - k) = n + 1 from by omega]; rfl, hcap, hres, hF⟩
    · have hi0 : ¬ (0 : Int) < (k : Int) := by omega
      have HP : Hid (insPos p xss n = k) := by
        show _ = _
        have hk00 : k = 0 := by omega
        subst hk00
        exact H.out.symm
      go_wp2
      have hk1 : (k : Int) ≤ (c : Int) := by omega
      have hk2 : (0 : Int) ≤ (k : Int) := by omega
      have hk3 : (k : Int) ≤ (n : Int) := by omega
      obtain ⟨ts, hts, htr⟩ := h.raw
      have HTS := Lib.hid hts.len
      by_cases hkc : c = k
      · have hnk : n = k := by omega
        have HD0 : Hid (ts.drop k = []) := List.drop_eq_nil_of_le (by rw [HTS.out]; omega)
        have HNK := Lib.hid hnk
        subst hkc
        go_region_law (first
          | (refine step_appAny _ rfl (.tmp 43) (.tmp 46) 24 25 rfl (.slice none 0 0) 24 Tryz.underlying24 info_ints rfl (by decide) w.heap.size 0 0 (some ⟨w.heap.size, 0, none⟩) [] (by rfl) (by first | exact lit0 _ (by simp) | exact (lit0 _ (by simp)).alloc _) (some ⟨b, o, none⟩) c c (ts.take c) slV (fun _ => rfl) (by rfl) ((hts.take (k := c) (by omega)).next stab_RSl (by first | exact (below_drewN (Below.refl _ _) _).alloc (by simp) _ | exact ((below_drewN (Below.refl _ _) _).alloc (by simp) _).alloc (by first | (simp; done) | (simp; omega)) _)) (fun _ _ _ hr => hr) (by omega) (by first | (simp; done) | (simp; omega)) ?_; intro A2 c2 w2 hown2 hg2 hb2; simp only [Nat.zero_add, List.nil_append] at hown2)
          | (refine step_appAny _ rfl (.tmp 43) (.tmp 46) 24 25 rfl (.slice none 0 0) 24 Tryz.underlying24 info_ints rfl (by decide) w.heap.size 0 0 (some ⟨w.heap.size + 1, 0, none⟩) [] (by rfl) (lit1 _ (by simp)) (some ⟨b, o, none⟩) c c (ts.take c) slV (fun _ => rfl) (by rfl) ((hts.take (k := c) (by omega)).next stab_RSl (by first | exact (below_drewN (Below.refl _ _) _).alloc (by simp) _ | exact ((below_drewN (Below.refl _ _) _).alloc (by simp) _).alloc (by first | (simp; done) | (simp; omega)) _)) (fun _ _ _ hr => hr) (by omega) (by first | (simp; done) | (simp; omega)) ?_; intro A2 c2 w2 hown2 hg2 hb2; simp only [Nat.zero_add, List.nil_append] at hown2)
          | (refine step_appAny (R := RSl) _ rfl (.tmp 47) (.tmp 49) 24 25 rfl (.slice none 0 0) 24 Tryz.underlying24 info_ints rfl (by decide) w.heap.size c c2 A2 ((ts.take c).map slV) (by rfl) (hown2.alloc _) (some ⟨w2.heap.size, 0, none⟩) 1 1 [(B, m, d)] slV (fun _ => rfl) (by rfl) (rd_cell (t := (B, m, d)) (cell_new _ rfl)) (fun _ _ _ hr => hr) (by omega) (by have h1 := hb2.size; first | (simp at h1; omega) | (simp at h1 ⊢; omega) | (simp; omega) | omega) ?_; intro A3 c3 w3 hown3 hg3 hb3)
          | (refine step_appAny (R := RSl) _ rfl (.tmp 47) (.tmp 49) 24 25 rfl (.slice none 0 0) 24 Tryz.underlying24 info_ints rfl (by decide) w.heap.size c c2 A2 ((ts.take c).map slV) (by rfl) hown2 (some ⟨w.heap.size + 1, 0, none⟩) 1 1 [(B, m, d)] slV (fun _ => rfl) (by rfl) (rd_cell (t := (B, m, d)) (hg2.cell (v := slV (B, m, d)) (cell_new _ (by simp)) (by simp [Value.ownBlock]))) (fun _ _ _ hr => hr) (by omega) (by have h1 := hb2.size; first | (simp at h1; omega) | (simp at h1 ⊢; omega) | (simp; omega) | omega) ?_; intro A3 c3 w3 hown3 hg3 hb3)
          | (refine step_appAny (R := RSl) _ rfl (.tmp 47) (.tmp 49) 24 25 rfl (.slice none 0 0) 24 Tryz.underlying24 info_ints rfl (by decide) w.heap.size c c2 A2 ((ts.take c).map slV) (by rfl) hown2 (some ⟨w.heap.size, 0, none⟩) 1 1 [(B, m, d)] slV (fun _ => rfl) (by rfl) (rd_cell (t := (B, m, d)) (hg2.cell (v := slV (B, m, d)) (cell_new2 _ _ (by simp)) (by simp [Value.ownBlock]))) (fun _ _ _ hr => hr) (by omega) (by have h1 := hb2.size; first | (simp at h1; omega) | (simp at h1 ⊢; omega) | (simp; omega) | omega) ?_; intro A3 c3 w3 hown3 hg3 hb3)
          | (refine step_appAny _ rfl (.tmp 50) (.tmp 53) 24 25 rfl (.slice none 0 0) 24 Tryz.underlying24 info_ints rfl (by decide) w.heap.size (c + 1) c3 A3 ((ts.take c).map slV ++ [slV (B, m, d)]) (by rfl) hown3 (some ⟨b, o, none⟩) 0 0 ([] : List SlT) slV (fun _ => rfl) (by rfl) (RdL.nil _ _ _) (fun _ _ _ hr => hr) (by omega) (by have h1 := hb2.size; have h2 := hb3.size; first | (simp at h1; omega) | (simp at h1 h2; omega) | (simp at h2; omega) | omega) ?_; intro A4 c4 w4 hown4 hg4 hb4))
        all_goals
          have hF3 : Below w.heap.size w w3 := (by refine Below.trans ?_ hb3; first | (refine Below.trans ?_ hb2; first | exact (below_drewN (Below.refl _ _) _).alloc (by simp) _ | exact ((below_drewN (Below.refl _ _) _).alloc (by simp) _).alloc (by first | (simp; done) | (simp; omega)) _) | (refine Below.alloc ?_ (by have h1 := hb2.size; first | (simp at h1; omega) | omega) _; refine Below.trans ?_ hb2; first | exact (below_drewN (Below.refl _ _) _).alloc (by simp) _ | exact ((below_drewN (Below.refl _ _) _).alloc (by simp) _).alloc (by first | (simp; done) | (simp; omega)) _))
          have hF := hF3.trans hb4
          have e1 : c + 1 + 0 = n + 1 := by omega
          rw [e1] at hown4
          have eL : (ts.take c).map slV ++ [slV (B, m, d)] ++ (([] : List SlT)).map slV = ((ts.take c) ++ (B, m, d) :: ts.drop c).map slV := by simp [HD0.out]
          rw [eL] at hown4
          obtain ⟨g4, hA4, -, hcap⟩ := own_form hown4 (by omega)
          have hres := sort_res (p := p) hown4 HTS.out hlen.out HP.out (by omega) (fun j t xs ht hx => (htr j t xs ht hx).next stab_RI hF) (hp.next stab_RI hF)
          rw [hA4] at hres
          have HA4 := Lib.hid hA4
          clear hA4 e1 eL
          go_wp2
          go_ret
          exact ⟨g4, c4, by rw [← HA4.out, HNK.out]; rfl, hcap, hres, hF⟩
      · go_region_law (first
          | (refine step_appAny _ rfl (.tmp 43) (.tmp 46) 24 25 rfl (.slice none 0 0) 24 Tryz.underlying24 info_ints rfl (by decide) w.heap.size 0 0 (some ⟨w.heap.size, 0, none⟩) [] (by rfl) (by first | exact lit0 _ (by simp) | exact (lit0 _ (by simp)).alloc _) (some ⟨b, o, none⟩) k c (ts.take k) slV (fun _ => rfl) (by rfl) ((hts.take (k := k) (by omega)).next stab_RSl (by first | exact (below_drewN (Below.refl _ _) _).alloc (by simp) _ | exact ((below_drewN (Below.refl _ _) _).alloc (by simp) _).alloc (by first | (simp; done) | (simp; omega)) _)) (fun _ _ _ hr => hr) (by omega) (by first | (simp; done) | (simp; omega)) ?_; intro A2 c2 w2 hown2 hg2 hb2; simp only [Nat.zero_add, List.nil_append] at hown2)
          | (refine step_appAny _ rfl (.tmp 43) (.tmp 46) 24 25 rfl (.slice none 0 0) 24 Tryz.underlying24 info_ints rfl (by decide) w.heap.size 0 0 (some ⟨w.heap.size + 1, 0, none⟩) [] (by rfl) (lit1 _ (by simp)) (some ⟨b, o, none⟩) k c (ts.take k) slV (fun _ => rfl) (by rfl) ((hts.take (k := k) (by omega)).next stab_RSl (by first | exact (below_drewN (Below.refl _ _) _).alloc (by simp) _ | exact ((below_drewN (Below.refl _ _) _).alloc (by simp) _).alloc (by first | (simp; done) | (simp; omega)) _)) (fun _ _ _ hr => hr) (by omega) (by first | (simp; done) | (simp; omega)) ?_; intro A2 c2 w2 hown2 hg2 hb2; simp only [Nat.zero_add, List.nil_append] at hown2)
          | (refine step_appAny (R := RSl) _ rfl (.tmp 47) (.tmp 49) 24 25 rfl (.slice none 0 0) 24 Tryz.underlying24 info_ints rfl (by decide) w.heap.size k c2 A2 ((ts.take k).map slV) (by rfl) (hown2.alloc _) (some ⟨w2.heap.size, 0, none⟩) 1 1 [(B, m, d)] slV (fun _ => rfl) (by rfl) (rd_cell (t := (B, m, d)) (cell_new _ rfl)) (fun _ _ _ hr => hr) (by omega) (by have h1 := hb2.size; first | (simp at h1; omega) | (simp at h1 ⊢; omega) | (simp; omega) | omega) ?_; intro A3 c3 w3 hown3 hg3 hb3)
          | (refine step_appAny (R := RSl) _ rfl (.tmp 47) (.tmp 49) 24 25 rfl (.slice none 0 0) 24 Tryz.underlying24 info_ints rfl (by decide) w.heap.size k c2 A2 ((ts.take k).map slV) (by rfl) hown2 (some ⟨w.heap.size + 1, 0, none⟩) 1 1 [(B, m, d)] slV (fun _ => rfl) (by rfl) (rd_cell (t := (B, m, d)) (hg2.cell (v := slV (B, m, d)) (cell_new _ (by simp)) (by simp [Value.ownBlock]))) (fun _ _ _ hr => hr) (by omega) (by have h1 := hb2.size; first | (simp at h1; omega) | (simp at h1 ⊢; omega) | (simp; omega) | omega) ?_; intro A3 c3 w3 hown3 hg3 hb3)
          | (refine step_appAny (R := RSl) _ rfl (.tmp 47) (.tmp 49) 24 25 rfl (.slice none 0 0) 24 Tryz.underlying24 info_ints rfl (by decide) w.heap.size k c2 A2 ((ts.take k).map slV) (by rfl) hown2 (some ⟨w.heap.size, 0, none⟩) 1 1 [(B, m, d)] slV (fun _ => rfl) (by rfl) (rd_cell (t := (B, m, d)) (hg2.cell (v := slV (B, m, d)) (cell_new2 _ _ (by simp)) (by simp [Value.ownBlock]))) (fun _ _ _ hr => hr) (by omega) (by have h1 := hb2.size; first | (simp at h1; omega) | (simp at h1 ⊢; omega) | (simp; omega) | omega) ?_; intro A3 c3 w3 hown3 hg3 hb3)
          | (refine step_appAny _ rfl (.tmp 50) (.tmp 53) 24 25 rfl (.slice none 0 0) 24 Tryz.underlying24 info_ints rfl (by decide) w.heap.size (k + 1) c3 A3 ((ts.take k).map slV ++ [slV (B, m, d)]) (by rfl) hown3 (some ⟨b, o + k, none⟩) (n - k) (c - k) (ts.drop k) slV (fun _ => rfl) (by rfl) ((hts.drop k).next stab_RSl (by refine Below.trans ?_ hb3; first | (refine Below.trans ?_ hb2; first | exact (below_drewN (Below.refl _ _) _).alloc (by simp) _ | exact ((below_drewN (Below.refl _ _) _).alloc (by simp) _).alloc (by first | (simp; done) | (simp; omega)) _) | (refine Below.alloc ?_ (by have h1 := hb2.size; first | (simp at h1; omega) | omega) _; refine Below.trans ?_ hb2; first | exact (below_drewN (Below.refl _ _) _).alloc (by simp) _ | exact ((below_drewN (Below.refl _ _) _).alloc (by simp) _).alloc (by first | (simp; done) | (simp; omega)) _))) (fun _ _ _ hr => hr) (by omega) (by have h1 := hb2.size; have h2 := hb3.size; first | (simp at h1; omega) | (simp at h1 h2; omega) | (simp at h2; omega) | omega) ?_; intro A4 c4 w4 hown4 hg4 hb4))
        all_goals
          have hF3 : Below w.heap.size w w3 := (by refine Below.trans ?_ hb3; first | (refine Below.trans ?_ hb2; first | exact (below_drewN (Below.refl _ _) _).alloc (by simp) _ | exact ((below_drewN (Below.refl _ _) _).alloc (by simp) _).alloc (by first | (simp; done) | (simp; omega)) _) | (refine Below.alloc ?_ (by have h1 := hb2.size; first | (simp at h1; omega) | omega) _; refine Below.trans ?_ hb2; first | exact (below_drewN (Below.refl _ _) _).alloc (by simp) _ | exact ((below_drewN (Below.refl _ _) _).alloc (by simp) _).alloc (by first | (simp; done) | (simp; omega)) _))
          have hF := hF3.trans hb4
          have e1 : k + 1 + (n - k) = n + 1 := by omega
          rw [e1] at hown4
          have eL : (ts.take k).map slV ++ [slV (B, m, d)] ++ (ts.drop k).map slV = ((ts.take k) ++ (B, m, d) :: ts.drop k).map slV := by simp
          rw [eL] at hown4
          obtain ⟨g4, hA4, -, hcap⟩ := own_form hown4 (by omega)
          have hres := sort_res (p := p) hown4 HTS.out hlen.out HP.out (by omega) (fun j t xs ht hx => (htr j t xs ht hx).next stab_RI hF) (hp.next stab_RI hF)
          rw [hA4] at hres
          have HA4 := Lib.hid hA4
          clear hA4 e1 eL
          go_wp2
          go_ret
          exact ⟨g4, c4, by rw [← HA4.out, show k + 1 + (n - k) = n + 1 from by omega]; rfl, hcap, hres, hF⟩
end Go.Proofs.YtlncpabnlnipoaaGreat
