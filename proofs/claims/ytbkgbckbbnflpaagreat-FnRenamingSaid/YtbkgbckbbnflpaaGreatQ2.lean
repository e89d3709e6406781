import Derived.Test.YtbkgbckbbnflpaaGreatQ1
import Derived.Deep.RegionLaw
import Derived.StillTailTactics
import Derived.Laws.IdiomStrings
import Derived.Lib.JoinLaws
set_option linter.unusedVariables false
set_option linter.unusedSimpArgs false
set_option maxRecDepth 100000
set_option maxHeartbeats 32000000
namespace Go.Proofs.YtbkgbckbbnflpaaGreat
open Go.RowKit
/-- Is the list a set of numbers below n? -/
def setB (n : Int) (s : List Int) : Bool := allIn 0 (n - 1) s && risesL s
theorem RdL.take {α : Type} {R : World → Value → α → Prop} {w : World} {A : Option Addr} {n : Nat} {xs : List α} (h : RdL R w A n xs) {k : Nat} (hk : k ≤ n) : RdL R w A k (xs.take k) := by
  refine ⟨by rw [List.length_take, h.1]; omega, Nat.le_trans hk h.2.1, fun j x hj => ?_⟩
  rw [List.getElem?_take] at hj
  split at hj
  · exact h.2.2 j x hj
  · cases hj
/-- A slice value by its parts. -/
theorem choose_list {α : Type} {p : Nat → α → Prop} (n : Nat) (h : ∀ (k : Nat), k < n → ∃ x, p k x) : ∃ l : List α, l.length = n ∧ ∀ (k : Nat) x, l[k]? = some x → p k x := by
  induction n with
  | zero => exact ⟨[], rfl, fun k x hx => by simp at hx⟩
  | succ n ih =>
    obtain ⟨l, hl, hp⟩ := ih fun k hk => h k (by omega)
    obtain ⟨x, hx⟩ := h n (by omega)
    refine ⟨l ++ [x], by simp [hl], fun k y hy => ?_⟩
    rcases Nat.lt_or_ge k n with _ | _
    · rw [List.getElem?_append_left (by omega)] at hy
      exact hp k y hy
    · have hk2 := (List.getElem?_eq_some_iff.1 hy).1
      simp at hk2
      have hkn : k = n := by omega
      subst hkn
      rw [List.getElem?_append_right (by omega), hl, Nat.sub_self] at hy
      simp at hy
      subst hy
      exact hx
/-- The places of the inner slices. -/
theorem RdL.raw {α : Type} {R : World → Value → α → Prop} {w : World} {A : Option Addr} {n : Nat} {xss : List (List α)} (h : RdL (RV R) w A n xss) :
    ∃ ts : List SlT, RdL RSl w A n ts ∧ ∀ (k : Nat) t xs, ts[k]? = some t → xss[k]? = some xs → RdL R w t.1 t.2.1 xs := by
  obtain ⟨ts, hl, hp⟩ := choose_list (p := fun k (t : SlT) => ∃ b o xs, A = some ⟨b, o, none⟩ ∧ w.cell? ⟨b, o + k, none⟩ = some (slV t) ∧ xss[k]? = some xs ∧ RdL R w t.1 t.2.1 xs) n (fun k hk => by
    obtain ⟨b, o, v, xs, e, hc, ⟨B, m, c, rfl, hr⟩, -, hx⟩ := h.at hk
    exact ⟨(B, m, c), b, o, xs, e, hc, hx, hr⟩)
  refine ⟨ts, ⟨hl, h.2.1, fun k t hk => ?_⟩, fun k t xs ht hx => ?_⟩
  · obtain ⟨b, o, xs, e, hc, -, -⟩ := hp k t hk
    exact ⟨b, o, slV t, e, hc, rfl⟩
  · obtain ⟨b, o, ys, -, -, hy, hr⟩ := hp k t ht
    rw [hx] at hy
    injection hy with hy
    rw [hy]
    exact hr
/-- .. and back: a row of the call's own that holds such places. -/
theorem rd_of_raw {α : Type} {R : World → Value → α → Prop} {w : World} {base : Nat} {e : TypeId} {A : Option Addr} {n c : Nat} {ts : List SlT} {xss : List (List α)} (hl : ts.length = xss.length) (h : w.ownsRow base e 1 (.slice A n c) n (ts.map slV))
    (hR : ∀ (k : Nat) t xs, ts[k]? = some t → xss[k]? = some xs → RdL R w t.1 t.2.1 xs) : RdL (RV R) w A n xss := by
  have hn := rd_of_own (R := RSl) h (fun x _ => rfl)
  refine ⟨by rw [← hl, hn.1], hn.2.1, fun k xs hk => ?_⟩
  have hkl : k < ts.length := by rw [hl]; exact (List.getElem?_eq_some_iff.1 hk).1
  obtain ⟨b, o, v, e, hc, hv⟩ := hn.2.2 k ts[k] (List.getElem?_eq_getElem hkl)
  exact ⟨b, o, v, e, hc, ts[k].1, ts[k].2.1, ts[k].2.2, hv, hR k _ xs (List.getElem?_eq_getElem hkl) hk⟩
theorem RdL.drop {α : Type} {R : World → Value → α → Prop} {w : World} {b o n : Nat} {xs : List α} (h : RdL R w (some ⟨b, o, none⟩) n xs) (k : Nat) : RdL R w (some ⟨b, o + k, none⟩) (n - k) (xs.drop k) := by
  refine ⟨by rw [List.length_drop, h.1], Nat.le_trans (Nat.sub_le _ _) h.2.1, fun j x hj => ?_⟩
  rw [List.getElem?_drop] at hj
  obtain ⟨b', o', v, e, hc, hr⟩ := h.2.2 (k + j) x hj
  simp only [Option.some.injEq, Addr.mk.injEq, and_true] at e
  obtain ⟨rfl, rfl⟩ := e
  exact ⟨b, o + k, v, rfl, by rw [Nat.add_assoc]; exact hc, hr⟩
theorem rd_cell {w : World} {g : Nat} {t : SlT} (h : w.cell? ⟨g, 0, none⟩ = some (slV t)) : RdL RSl w (some ⟨g, 0, none⟩) 1 [t] := by
  refine ⟨rfl, by unfold maxLen; omega, fun k x hk => ?_⟩
  have hk1 := (List.getElem?_eq_some_iff.1 hk).1
  simp at hk1
  subst hk1
  simp at hk
  subst hk
  exact ⟨g, 0, slV t, rfl, h, rfl⟩
theorem lit0 {B : Nat} {e : TypeId} (w : World) (hB : w.heap.size = B) : (w.alloc (.cells #[] e)).ownsRow B e 1 (.slice (some ⟨B, 0, none⟩) 0 0) 0 [] := by
  subst hB
  exact World.ownsRow_lit _ _ _ (Nat.le_refl _) (Nat.zero_le _) rfl
theorem lit1 {B : Nat} {e : TypeId} (w : World) (hB : w.heap.size = B + 1) : (w.alloc (.cells #[] e)).ownsRow B e 1 (.slice (some ⟨B + 1, 0, none⟩) 0 0) 0 [] := by
  rw [← hB]
  exact World.ownsRow_lit _ _ _ (by omega) (Nat.zero_le _) rfl
theorem cell_new {B : Nat} {e : TypeId} {u : Value} (w : World) (hB : w.heap.size = B) : (w.alloc (.cells #[u] e)).cell? ⟨B, 0, none⟩ = some u := by
  subst hB
  exact (Blk.new w e #[u]).cell 0
theorem cell_new2 {B : Nat} {e : TypeId} {u : Value} (w : World) (o : Obj) (hB : w.heap.size = B) : ((w.alloc (.cells #[u] e)).alloc o).cell? ⟨B, 0, none⟩ = some u := by
  subst hB
  exact ((Blk.new w e #[u]).alloc o).cell 0
/-- Does p go ahead of q? Shorter lists first, then by the numbers. -/
def lessT (p q : List Int) : Bool := decide (p.length < q.length) || (decide (p.length = q.length) && lessL p q)
def insPos (p : List Int) (xss : List (List Int)) : Nat → Nat
  | 0 => 0
  | k + 1 => if lessT p (xss.getD k []) then insPos p xss k else k + 1
theorem insPos_le (p : List Int) (xss : List (List Int)) : ∀ n, insPos p xss n ≤ n
  | 0 => Nat.le_refl _
  | k + 1 => by have := insPos_le p xss k; rw [insPos]; split <;> omega
def insT (p : List Int) (xss : List (List Int)) : List (List Int) := xss.take (insPos p xss xss.length) ++ p :: xss.drop (insPos p xss xss.length)
theorem own_form {w : World} {base : Nat} {e : TypeId} {size : Nat} {A : Option Addr} {n c : Nat} {xs : List Value} (h : w.ownsRow base e size (.slice A n c) n xs) (hn : 0 < n) : ∃ g, A = some ⟨g, 0, none⟩ ∧ base ≤ g ∧ n ≤ c := by
  rcases h.2 with ⟨h0, h1⟩ | ⟨g, cap, cur, hv, hb, _, hnc, _⟩
  · omega
  · injection hv with hA _ hc
    exact ⟨g, hA, hb, by omega⟩
theorem sort_cap {w : World} {base : Nat} {e : TypeId} {size : Nat} {A : Option Addr} {n c : Nat} {xs : List Value} (h : w.ownsRow base e size (.slice A n c) n xs) : n ≤ c := by
  rcases h.2 with ⟨h0, h1⟩ | ⟨g, cap, cur, hv, _, _, hnc, _⟩
  · omega
  · injection hv with _ _ hc
    omega
theorem sort_res {w : World} {base : Nat} {e : TypeId} {A B : Option Addr} {n c m d k : Nat} {ts : List SlT} {xss : List (List Int)} {p : List Int} (h : w.ownsRow base e 1 (.slice A (n + 1) c) (n + 1) ((ts.take k ++ (B, m, d) :: ts.drop k).map slV))
    (hts : ts.length = n) (hx : xss.length = n) (hk : insPos p xss n = k) (hkn : k ≤ n) (hR : ∀ (j : Nat) t xs, ts[j]? = some t → xss[j]? = some xs → RdL RI w t.1 t.2.1 xs) (hp : RdL RI w B m p) : RdL (RV RI) w A (n + 1) (insT p xss) := by
  have hI : insT p xss = xss.take k ++ p :: xss.drop k := by unfold insT; rw [hx, hk]
  rw [hI]
  refine rd_of_raw (by simp [hts, hx]) h fun j t xs ht hxs => ?_
  have l1 : (ts.take k).length = k := by rw [List.length_take, hts]; omega
  have l2 : (xss.take k).length = k := by rw [List.length_take, hx]; omega
  rcases Nat.lt_trichotomy j k with hj | hj | hj
  · rw [List.getElem?_append_left (by omega), List.getElem?_take, if_pos hj] at ht hxs
    exact hR j t xs ht hxs
  · subst hj
    rw [List.getElem?_append_right (by omega), l1, Nat.sub_self] at ht
    rw [List.getElem?_append_right (by omega), l2, Nat.sub_self] at hxs
    simp at ht hxs
    subst ht
    subst hxs
    exact hp
  · rw [List.getElem?_append_right (by omega), l1] at ht
    rw [List.getElem?_append_right (by omega), l2] at hxs
    obtain ⟨i, hi⟩ : ∃ i, j - k = i + 1 := ⟨j - k - 1, by omega⟩
    rw [hi, List.getElem?_cons_succ, List.getElem?_drop] at ht hxs
    exact hR _ t xs ht hxs
theorem l5Sort_any (b o n c : Nat) (B : Option Addr) (m d : Nat) (xss : List (List Int)) (p : List Int) (w : World) (h : RdL (RV RI) w (some ⟨b, o, none⟩) n xss) (hp : RdL RI w B m p) (hc : n ≤ c) (hn : n ≤ 1048576) :
    Calls Tryz.prog 60 #[.slice (some ⟨b, o, none⟩) n c, .slice B m d] w fun e w' => ∃ g c', e = .returned (.slice (some ⟨g, 0, none⟩) (n + 1) c') ∧ n + 1 ≤ c' ∧ RdL (RV RI) w' (some ⟨g, 0, none⟩) (n + 1) (insT p xss) ∧ Below w.heap.size w w' := by
  have hle := h.le
  have hlen := Lib.hid h.len
  have hplen := Lib.hid hp.len
  go_enter Tryz.func60, Tryz.ntmps60
  go_wp2
  go_loopw [5] (fun i wr => ∃ k : Nat, k ≤ n ∧ i = .int .i64 k ∧ Hid (insPos p xss k = insPos p xss n) ∧ Drawn w wr) (fun i _ => (intOf i).toNat)
  case atStart => exact ⟨n, Nat.le_refl _, rfl, rfl, Drawn.zero _⟩
  case round =>
    obtain ⟨k, hk, rfl, H, z, rfl⟩ := hrel
    by_cases hk0 : 0 < k
    · have hi0 : (0 : Int) < (k : Int) := by omega
      have hi1 : (0 : Int) ≤ (k : Int) - 1 := by omega
      have hi2 : (k : Int) - 1 < (n : Int) := by omega
      obtain ⟨v, q, hcq, ⟨Q, j, dq, rfl, hq⟩, -, hx⟩ := h.at' (k := k - 1) (by omega)
      have hqlen := Lib.hid hq.len
      have HS : Hid (insPos p xss k = if lessT p q then insPos p xss (k - 1) else k) := by
        obtain ⟨k', rfl⟩ : ∃ k', k = k' + 1 := ⟨k - 1, by omega⟩
        simp at hx
        show insPos p xss (k' + 1) = _
        rw [insPos, List.getD_eq_getElem?_getD, hx]
        rfl
      clear hx
      by_cases h1 : m < j
      · go_wp2
        go_roundw
        case rel => exact ⟨k - 1, by omega, by rw [show ((k : Int) - 1) = ((k - 1 : Nat) : Int) from by omega], by rw [← H.out, HS.out, show lessT p q = true by unfold lessT; simp [hplen.out, hqlen.out, h1]]; rfl, (by first | exact Drawn.zero _ | exact Drawn.at_ _ _ | exact (Drawn.at_ _ _).more _ | exact ((Drawn.at_ _ _).more _).more _)⟩
        case measure => simp [intOf]; omega
      · by_cases h2 : m = j
        · subst h2
          rcases hl : lessL p q with _ | _
          · have HL := Lib.hid hl
            have HP : Hid (insPos p xss n = k) := by
              show _ = _
              rw [← H.out, HS.out, show lessT p q = false by unfold lessT; simp [hplen.out, hqlen.out, HL.out]]; rfl
            go_wp2_with (go_at_call 82; refine (l5Less_any _ _ _ _ _ _ _ _ (hp.drewN stab_RI _) (hq.drewN stab_RI _)).mono ?_; rintro e w' ⟨rfl, z', rfl⟩)
            have hk1 : (k : Int) ≤ (c : Int) := by omega
            have hk2 : (0 : Int) ≤ (k : Int) := by omega
            have hk3 : (k : Int) ≤ (n : Int) := by omega
            obtain ⟨ts, hts, htr⟩ := h.raw
            have HTS := Lib.hid hts.len
            by_cases hkc : c = k
            · have hnk : n = k := by omega
              have HD0 : Hid (ts.drop k = []) := List.drop_eq_nil_of_le (by rw [HTS.out]; omega)
              have HNK := Lib.hid hnk
              subst hkc
              go_region_law (first
                | (refine step_appAny _ rfl (.tmp 43) (.tmp 46) 33 27 rfl (.slice none 0 0) 24 Tryz.underlying33 info_ints rfl (by decide) w.heap.size 0 0 (some ⟨w.heap.size, 0, none⟩) [] (by rfl) (by first | exact lit0 _ (by simp) | exact (lit0 _ (by simp)).alloc _) (some ⟨b, o, none⟩) c c (ts.take c) slV (fun _ => rfl) (by rfl) ((hts.take (k := c) (by omega)).next stab_RSl (by first | exact (below_drewN (Below.refl _ _) _).alloc (by simp) _ | exact ((below_drewN (Below.refl _ _) _).alloc (by simp) _).alloc (by first | (simp; done) | (simp; omega)) _)) (fun _ _ _ hr => hr) (by omega) (by first | (simp; done) | (simp; omega)) ?_; intro A2 c2 w2 hown2 hg2 hb2; simp only [Nat.zero_add, List.nil_append] at hown2)
                | (refine step_appAny _ rfl (.tmp 43) (.tmp 46) 33 27 rfl (.slice none 0 0) 24 Tryz.underlying33 info_ints rfl (by decide) w.heap.size 0 0 (some ⟨w.heap.size + 1, 0, none⟩) [] (by rfl) (lit1 _ (by simp)) (some ⟨b, o, none⟩) c c (ts.take c) slV (fun _ => rfl) (by rfl) ((hts.take (k := c) (by omega)).next stab_RSl (by first | exact (below_drewN (Below.refl _ _) _).alloc (by simp) _ | exact ((below_drewN (Below.refl _ _) _).alloc (by simp) _).alloc (by first | (simp; done) | (simp; omega)) _)) (fun _ _ _ hr => hr) (by omega) (by first | (simp; done) | (simp; omega)) ?_; intro A2 c2 w2 hown2 hg2 hb2; simp only [Nat.zero_add, List.nil_append] at hown2)
                | (refine step_appAny (R := RSl) _ rfl (.tmp 47) (.tmp 49) 33 27 rfl (.slice none 0 0) 24 Tryz.underlying33 info_ints rfl (by decide) w.heap.size c c2 A2 ((ts.take c).map slV) (by rfl) (hown2.alloc _) (some ⟨w2.heap.size, 0, none⟩) 1 1 [(B, m, d)] slV (fun _ => rfl) (by rfl) (rd_cell (t := (B, m, d)) (cell_new _ rfl)) (fun _ _ _ hr => hr) (by omega) (by have h1 := hb2.size; first | (simp at h1; omega) | (simp at h1 ⊢; omega) | (simp; omega) | omega) ?_; intro A3 c3 w3 hown3 hg3 hb3)
                | (refine step_appAny (R := RSl) _ rfl (.tmp 47) (.tmp 49) 33 27 rfl (.slice none 0 0) 24 Tryz.underlying33 info_ints rfl (by decide) w.heap.size c c2 A2 ((ts.take c).map slV) (by rfl) hown2 (some ⟨w.heap.size + 1, 0, none⟩) 1 1 [(B, m, d)] slV (fun _ => rfl) (by rfl) (rd_cell (t := (B, m, d)) (hg2.cell (v := slV (B, m, d)) (cell_new _ (by simp)) (by simp [Value.ownBlock]))) (fun _ _ _ hr => hr) (by omega) (by have h1 := hb2.size; first | (simp at h1; omega) | (simp at h1 ⊢; omega) | (simp; omega) | omega) ?_; intro A3 c3 w3 hown3 hg3 hb3)
                | (refine step_appAny (R := RSl) _ rfl (.tmp 47) (.tmp 49) 33 27 rfl (.slice none 0 0) 24 Tryz.underlying33 info_ints rfl (by decide) w.heap.size c c2 A2 ((ts.take c).map slV) (by rfl) hown2 (some ⟨w.heap.size, 0, none⟩) 1 1 [(B, m, d)] slV (fun _ => rfl) (by rfl) (rd_cell (t := (B, m, d)) (hg2.cell (v := slV (B, m, d)) (cell_new2 _ _ (by simp)) (by simp [Value.ownBlock]))) (fun _ _ _ hr => hr) (by omega) (by have h1 := hb2.size; first | (simp at h1; omega) | (simp at h1 ⊢; omega) | (simp; omega) | omega) ?_; intro A3 c3 w3 hown3 hg3 hb3)
                | (refine step_appAny _ rfl (.tmp 50) (.tmp 53) 33 27 rfl (.slice none 0 0) 24 Tryz.underlying33 info_ints rfl (by decide) w.heap.size (c + 1) c3 A3 ((ts.take c).map slV ++ [slV (B, m, d)]) (by rfl) hown3 (some ⟨b, o, none⟩) 0 0 ([] : List SlT) slV (fun _ => rfl) (by rfl) (RdL.nil _ _ _) (fun _ _ _ hr => hr) (by omega) (by have h1 := hb2.size; have h2 := hb3.size; first | (simp at h1; omega) | (simp at h1 h2; omega) | (simp at h2; omega) | omega) ?_; intro A4 c4 w4 hown4 hg4 hb4))
              all_goals
                have hF3 : Below w.heap.size w w3 := (by refine Below.trans ?_ hb3; first | (refine Below.trans ?_ hb2; first | exact (below_drewN (Below.refl _ _) _).alloc (by simp) _ | exact ((below_drewN (Below.refl _ _) _).alloc (by simp) _).alloc (by first | (simp; done) | (simp; omega)) _) | (refine Below.alloc ?_ (by have h1 := hb2.size; first | (simp at h1; omega) | omega) _; refine Below.trans ?_ hb2; first | exact (below_drewN (Below.refl _ _) _).alloc (by simp) _ | exact ((below_drewN (Below.refl _ _) _).alloc (by simp) _).alloc (by first | (simp; done) | (simp; omega)) _))
                have hF := hF3.trans hb4
                have e1 : c + 1 + 0 = n + 1 := by omega
                rw [e1] at hown4
                have eL : (ts.take c).map slV ++ [slV (B, m, d)] ++ (([] : List SlT)).map slV = ((ts.take c) ++ (B, m, d) :: ts.drop c).map slV := by simp [HD0.out]
                rw [eL] at hown4
                obtain ⟨g4, hA4, -, hcap⟩ := own_form hown4 (by omega)
                have hres := sort_res (p := p) hown4 HTS.out hlen.out HP.out (by omega) (fun j t xs ht hx => (htr j t xs ht hx).next stab_RI hF) (hp.next stab_RI hF)
                rw [hA4] at hres
                have HA4 := Lib.hid hA4
                clear hA4 e1 eL
                go_wp2
                go_ret
                exact ⟨g4, c4, by rw [← HA4.out, HNK.out]; rfl, hcap, hres, hF⟩
            · go_region_law (first
                | (refine step_appAny _ rfl (.tmp 43) (.tmp 46) 33 27 rfl (.slice none 0 0) 24 Tryz.underlying33 info_ints rfl (by decide) w.heap.size 0 0 (some ⟨w.heap.size, 0, none⟩) [] (by rfl) (by first | exact lit0 _ (by simp) | exact (lit0 _ (by simp)).alloc _) (some ⟨b, o, none⟩) k c (ts.take k) slV (fun _ => rfl) (by rfl) ((hts.take (k := k) (by omega)).next stab_RSl (by first | exact (below_drewN (Below.refl _ _) _).alloc (by simp) _ | exact ((below_drewN (Below.refl _ _) _).alloc (by simp) _).alloc (by first | (simp; done) | (simp; omega)) _)) (fun _ _ _ hr => hr) (by omega) (by first | (simp; done) | (simp; omega)) ?_; intro A2 c2 w2 hown2 hg2 hb2; simp only [Nat.zero_add, List.nil_append] at hown2)
                | (refine step_appAny _ rfl (.tmp 43) (.tmp 46) 33 27 rfl (.slice none 0 0) 24 Tryz.underlying33 info_ints rfl (by decide) w.heap.size 0 0 (some ⟨w.heap.size + 1, 0, none⟩) [] (by rfl) (lit1 _ (by simp)) (some ⟨b, o, none⟩) k c (ts.take k) slV (fun _ => rfl) (by rfl) ((hts.take (k := k) (by omega)).next stab_RSl (by first | exact (below_drewN (Below.refl _ _) _).alloc (by simp) _ | exact ((below_drewN (Below.refl _ _) _).alloc (by simp) _).alloc (by first | (simp; done) | (simp; omega)) _)) (fun _ _ _ hr => hr) (by omega) (by first | (simp; done) | (simp; omega)) ?_; intro A2 c2 w2 hown2 hg2 hb2; simp only [Nat.zero_add, List.nil_append] at hown2)
                | (refine step_appAny (R := RSl) _ rfl (.tmp 47) (.tmp 49) 33 27 rfl (.slice none 0 0) 24 Tryz.underlying33 info_ints rfl (by decide) w.heap.size k c2 A2 ((ts.take k).map slV) (by rfl) (hown2.alloc _) (some ⟨w2.heap.size, 0, none⟩) 1 1 [(B, m, d)] slV (fun _ => rfl) (by rfl) (rd_cell (t := (B, m, d)) (cell_new _ rfl)) (fun _ _ _ hr => hr) (by omega) (by have h1 := hb2.size; first | (simp at h1; omega) | (simp at h1 ⊢; omega) | (simp; omega) | omega) ?_; intro A3 c3 w3 hown3 hg3 hb3)
                | (refine step_appAny (R := RSl) _ rfl (.tmp 47) (.tmp 49) 33 27 rfl (.slice none 0 0) 24 Tryz.underlying33 info_ints rfl (by decide) w.heap.size k c2 A2 ((ts.take k).map slV) (by rfl) hown2 (some ⟨w.heap.size + 1, 0, none⟩) 1 1 [(B, m, d)] slV (fun _ => rfl) (by rfl) (rd_cell (t := (B, m, d)) (hg2.cell (v := slV (B, m, d)) (cell_new _ (by simp)) (by simp [Value.ownBlock]))) (fun _ _ _ hr => hr) (by omega) (by have h1 := hb2.size; first | (simp at h1; omega) | (simp at h1 ⊢; omega) | (simp; omega) | omega) ?_; intro A3 c3 w3 hown3 hg3 hb3)
                | (refine step_appAny (R := RSl) _ rfl (.tmp 47) (.tmp 49) 33 27 rfl (.slice none 0 0) 24 Tryz.underlying33 info_ints rfl (by decide) w.heap.size k c2 A2 ((ts.take k).map slV) (by rfl) hown2 (some ⟨w.heap.size, 0, none⟩) 1 1 [(B, m, d)] slV (fun _ => rfl) (by rfl) (rd_cell (t := (B, m, d)) (hg2.cell (v := slV (B, m, d)) (cell_new2 _ _ (by simp)) (by simp [Value.ownBlock]))) (fun _ _ _ hr => hr) (by omega) (by have h1 := hb2.size; first | (simp at h1; omega) | (simp at h1 ⊢; omega) | (simp; omega) | omega) ?_; intro A3 c3 w3 hown3 hg3 hb3)
                | (refine step_appAny _ rfl (.tmp 50) (.tmp 53) 33 27 rfl (.slice none 0 0) 24 Tryz.underlying33 info_ints rfl (by decide) w.heap.size (k + 1) c3 A3 ((ts.take k).map slV ++ [slV (B, m, d)]) (by rfl) hown3 (some ⟨b, o + k, none⟩) (n - k) (c - k) (ts.drop k) slV (fun _ => rfl) (by rfl) ((hts.drop k).next stab_RSl (by refine Below.trans ?_ hb3; first | (refine Below.trans ?_ hb2; first | exact (below_drewN (Below.refl _ _) _).alloc (by simp) _ | exact ((below_drewN (Below.refl _ _) _).alloc (by simp) _).alloc (by first | (simp; done) | (simp; omega)) _) | (refine Below.alloc ?_ (by have h1 := hb2.size; first | (simp at h1; omega) | omega) _; refine Below.trans ?_ hb2; first | exact (below_drewN (Below.refl _ _) _).alloc (by simp) _ | exact ((below_drewN (Below.refl _ _) _).alloc (by simp) _).alloc (by first | (simp; done) | (simp; omega)) _))) (fun _ _ _ hr => hr) (by omega) (by have h1 := hb2.size; have h2 := hb3.size; first | (simp at h1; omega) | (simp at h1 h2; omega) | (simp at h2; omega) | omega) ?_; intro A4 c4 w4 hown4 hg4 hb4))
              all_goals
                have hF3 : Below w.heap.size w w3 := (by refine Below.trans ?_ hb3; first | (refine Below.trans ?_ hb2; first | exact (below_drewN (Below.refl _ _) _).alloc (by simp) _ | exact ((below_drewN (Below.refl _ _) _).alloc (by simp) _).alloc (by first | (simp; done) | (simp; omega)) _) | (refine Below.alloc ?_ (by have h1 := hb2.size; first | (simp at h1; omega) | omega) _; refine Below.trans ?_ hb2; first | exact (below_drewN (Below.refl _ _) _).alloc (by simp) _ | exact ((below_drewN (Below.refl _ _) _).alloc (by simp) _).alloc (by first | (simp; done) | (simp; omega)) _))
                have hF := hF3.trans hb4
                have e1 : k + 1 + (n - k) = n + 1 := by omega
                rw [e1] at hown4
                have eL : (ts.take k).map slV ++ [slV (B, m, d)] ++ (ts.drop k).map slV = ((ts.take k) ++ (B, m, d) :: ts.drop k).map slV := by simp
                rw [eL] at hown4
                obtain ⟨g4, hA4, -, hcap⟩ := own_form hown4 (by omega)
                have hres := sort_res (p := p) hown4 HTS.out hlen.out HP.out (by omega) (fun j t xs ht hx => (htr j t xs ht hx).next stab_RI hF) (hp.next stab_RI hF)
                rw [hA4] at hres
                have HA4 := Lib.hid hA4
                clear hA4 e1 eL
                go_wp2
                go_ret
                exact ⟨g4, c4, by rw [← HA4.out, show k + 1 + (n - k) = n + 1 from by omega]; rfl, hcap, hres, hF⟩
          · have HL := Lib.hid hl
            go_wp2_with (go_at_call 82; refine (l5Less_any _ _ _ _ _ _ _ _ (hp.drewN stab_RI _) (hq.drewN stab_RI _)).mono ?_; rintro e w' ⟨rfl, z', rfl⟩)
            go_roundw
            case rel => exact ⟨k - 1, by omega, by rw [show ((k : Int) - 1) = ((k - 1 : Nat) : Int) from by omega], by rw [← H.out, HS.out, show lessT p q = true by unfold lessT; simp [hplen.out, hqlen.out, HL.out]]; rfl, (by first | exact Drawn.zero _ | exact Drawn.at_ _ _ | exact (Drawn.at_ _ _).more _ | exact ((Drawn.at_ _ _).more _).more _)⟩
            case measure => simp [intOf]; omega
        · have hne : ((m : Int) == (j : Int)) = false := by simp; omega
          have HP : Hid (insPos p xss n = k) := by
            show _ = _
            rw [← H.out, HS.out, show lessT p q = false by unfold lessT; simp [hplen.out, hqlen.out, h1, h2]]; rfl
          go_wp2
          have hk1 : (k : Int) ≤ (c : Int) := by omega
          have hk2 : (0 : Int) ≤ (k : Int) := by omega
          have hk3 : (k : Int) ≤ (n : Int) := by omega
          obtain ⟨ts, hts, htr⟩ := h.raw
          have HTS := Lib.hid hts.len
          by_cases hkc : c = k
          · have hnk : n = k := by omega
            have HD0 : Hid (ts.drop k = []) := List.drop_eq_nil_of_le (by rw [HTS.out]; omega)
            have HNK := Lib.hid hnk
            subst hkc
            go_region_law (first
              | (refine step_appAny _ rfl (.tmp 43) (.tmp 46) 33 27 rfl (.slice none 0 0) 24 Tryz.underlying33 info_ints rfl (by decide) w.heap.size 0 0 (some ⟨w.heap.size, 0, none⟩) [] (by rfl) (by first | exact lit0 _ (by simp) | exact (lit0 _ (by simp)).alloc _) (some ⟨b, o, none⟩) c c (ts.take c) slV (fun _ => rfl) (by rfl) ((hts.take (k := c) (by omega)).next stab_RSl (by first | exact (below_drewN (Below.refl _ _) _).alloc (by simp) _ | exact ((below_drewN (Below.refl _ _) _).alloc (by simp) _).alloc (by first | (simp; done) | (simp; omega)) _)) (fun _ _ _ hr => hr) (by omega) (by first | (simp; done) | (simp; omega)) ?_; intro A2 c2 w2 hown2 hg2 hb2; simp only [Nat.zero_add, List.nil_append] at hown2)
              | (refine step_appAny _ rfl (.tmp 43) (.tmp 46) 33 27 rfl (.slice none 0 0) 24 Tryz.underlying33 info_ints rfl (by decide) w.heap.size 0 0 (some ⟨w.heap.size + 1, 0, none⟩) [] (by rfl) (lit1 _ (by simp)) (some ⟨b, o, none⟩) c c (ts.take c) slV (fun _ => rfl) (by rfl) ((hts.take (k := c) (by omega)).next stab_RSl (by first | exact (below_drewN (Below.refl _ _) _).alloc (by simp) _ | exact ((below_drewN (Below.refl _ _) _).alloc (by simp) _).alloc (by first | (simp; done) | (simp; omega)) _)) (fun _ _ _ hr => hr) (by omega) (by first | (simp; done) | (simp; omega)) ?_; intro A2 c2 w2 hown2 hg2 hb2; simp only [Nat.zero_add, List.nil_append] at hown2)
              | (refine step_appAny (R := RSl) _ rfl (.tmp 47) (.tmp 49) 33 27 rfl (.slice none 0 0) 24 Tryz.underlying33 info_ints rfl (by decide) w.heap.size c c2 A2 ((ts.take c).map slV) (by rfl) (hown2.alloc _) (some ⟨w2.heap.size, 0, none⟩) 1 1 [(B, m, d)] slV (fun _ => rfl) (by rfl) (rd_cell (t := (B, m, d)) (cell_new _ rfl)) (fun _ _ _ hr => hr) (by omega) (by have h1 := hb2.size; first | (simp at h1; omega) | (simp at h1 ⊢; omega) | (simp; omega) | omega) ?_; intro A3 c3 w3 hown3 hg3 hb3)
              | (refine step_appAny (R := RSl) _ rfl (.tmp 47) (.tmp 49) 33 27 rfl (.slice none 0 0) 24 Tryz.underlying33 info_ints rfl (by decide) w.heap.size c c2 A2 ((ts.take c).map slV) (by rfl) hown2 (some ⟨w.heap.size + 1, 0, none⟩) 1 1 [(B, m, d)] slV (fun _ => rfl) (by rfl) (rd_cell (t := (B, m, d)) (hg2.cell (v := slV (B, m, d)) (cell_new _ (by simp)) (by simp [Value.ownBlock]))) (fun _ _ _ hr => hr) (by omega) (by have h1 := hb2.size; first | (simp at h1; omega) | (simp at h1 ⊢; omega) | (simp; omega) | omega) ?_; intro A3 c3 w3 hown3 hg3 hb3)
              | (refine step_appAny (R := RSl) _ rfl (.tmp 47) (.tmp 49) 33 27 rfl (.slice none 0 0) 24 Tryz.underlying33 info_ints rfl (by decide) w.heap.size c c2 A2 ((ts.take c).map slV) (by rfl) hown2 (some ⟨w.heap.size, 0, none⟩) 1 1 [(B, m, d)] slV (fun _ => rfl) (by rfl) (rd_cell (t := (B, m, d)) (hg2.cell (v := slV (B, m, d)) (cell_new2 _ _ (by simp)) (by simp [Value.ownBlock]))) (fun _ _ _ hr => hr) (by omega) (by have h1 := hb2.size; first | (simp at h1; omega) | (simp at h1 ⊢; omega) | (simp; omega) | omega) ?_; intro A3 c3 w3 hown3 hg3 hb3)
              | (refine step_appAny _ rfl (.tmp 50) (.tmp 53) 33 27 rfl (.slice none 0 0) 24 Tryz.underlying33 info_ints rfl (by decide) w.heap.size (c + 1) c3 A3 ((ts.take c).map slV ++ [slV (B, m, d)]) (by rfl) hown3 (some ⟨b, o, none⟩) 0 0 ([] : List SlT) slV (fun _ => rfl) (by rfl) (RdL.nil _ _ _) (fun _ _ _ hr => hr) (by omega) (by have h1 := hb2.size; have h2 := hb3.size; first | (simp at h1; omega) | (simp at h1 h2; omega) | (simp at h2; omega) | omega) ?_; intro A4 c4 w4 hown4 hg4 hb4))
            all_goals
              have hF3 : Below w.heap.size w w3 := (by refine Below.trans ?_ hb3; first | (refine Below.trans ?_ hb2; first | exact (below_drewN (Below.refl _ _) _).alloc (by simp) _ | exact ((below_drewN (Below.refl _ _) _).alloc (by simp) _).alloc (by first | (simp; done) | (simp; omega)) _) | (refine Below.alloc ?_ (by have h1 := hb2.size; first | (simp at h1; omega) | omega) _; refine Below.trans ?_ hb2; first | exact (below_drewN (Below.refl _ _) _).alloc (by simp) _ | exact ((below_drewN (Below.refl _ _) _).alloc (by simp) _).alloc (by first | (simp; done) | (simp; omega)) _))
              have hF := hF3.trans hb4
              have e1 : c + 1 + 0 = n + 1 := by omega
              rw [e1] at hown4
              have eL : (ts.take c).map slV ++ [slV (B, m, d)] ++ (([] : List SlT)).map slV = ((ts.take c) ++ (B, m, d) :: ts.drop c).map slV := by simp [HD0.out]
              rw [eL] at hown4
              obtain ⟨g4, hA4, -, hcap⟩ := own_form hown4 (by omega)
              have hres := sort_res (p := p) hown4 HTS.out hlen.out HP.out (by omega) (fun j t xs ht hx => (htr j t xs ht hx).next stab_RI hF) (hp.next stab_RI hF)
              rw [hA4] at hres
              have HA4 := Lib.hid hA4
              clear hA4 e1 eL
              go_wp2
              go_ret
              exact ⟨g4, c4, by rw [← HA4.out, HNK.out]; rfl, hcap, hres, hF⟩
          · go_region_law (first
              | (refine step_appAny _ rfl (.tmp 43) (.tmp 46) 33 27 rfl (.slice none 0 0) 24 Tryz.underlying33 info_ints rfl (by decide) w.heap.size 0 0 (some ⟨w.heap.size, 0, none⟩) [] (by rfl) (by first | exact lit0 _ (by simp) | exact (lit0 _ (by simp)).alloc _) (some ⟨b, o, none⟩) k c (ts.take k) slV (fun _ => rfl) (by rfl) ((hts.take (k := k) (by omega)).next stab_RSl (by first | exact (below_drewN (Below.refl _ _) _).alloc (by simp) _ | exact ((below_drewN (Below.refl _ _) _).alloc (by simp) _).alloc (by first | (simp; done) | (simp; omega)) _)) (fun _ _ _ hr => hr) (by omega) (by first | (simp; done) | (simp; omega)) ?_; intro A2 c2 w2 hown2 hg2 hb2; simp only [Nat.zero_add, List.nil_append] at hown2)
              | (refine step_appAny _ rfl (.tmp 43) (.tmp 46) 33 27 rfl (.slice none 0 0) 24 Tryz.underlying33 info_ints rfl (by decide) w.heap.size 0 0 (some ⟨w.heap.size + 1, 0, none⟩) [] (by rfl) (lit1 _ (by simp)) (some ⟨b, o, none⟩) k c (ts.take k) slV (fun _ => rfl) (by rfl) ((hts.take (k := k) (by omega)).next stab_RSl (by first | exact (below_drewN (Below.refl _ _) _).alloc (by simp) _ | exact ((below_drewN (Below.refl _ _) _).alloc (by simp) _).alloc (by first | (simp; done) | (simp; omega)) _)) (fun _ _ _ hr => hr) (by omega) (by first | (simp; done) | (simp; omega)) ?_; intro A2 c2 w2 hown2 hg2 hb2; simp only [Nat.zero_add, List.nil_append] at hown2)
              | (refine step_appAny (R := RSl) _ rfl (.tmp 47) (.tmp 49) 33 27 rfl (.slice none 0 0) 24 Tryz.underlying33 info_ints rfl (by decide) w.heap.size k c2 A2 ((ts.take k).map slV) (by rfl) (hown2.alloc _) (some ⟨w2.heap.size, 0, none⟩) 1 1 [(B, m, d)] slV (fun _ => rfl) (by rfl) (rd_cell (t := (B, m, d)) (cell_new _ rfl)) (fun _ _ _ hr => hr) (by omega) (by have h1 := hb2.size; first | (simp at h1; omega) | (simp at h1 ⊢; omega) | (simp; omega) | omega) ?_; intro A3 c3 w3 hown3 hg3 hb3)
              | (refine step_appAny (R := RSl) _ rfl (.tmp 47) (.tmp 49) 33 27 rfl (.slice none 0 0) 24 Tryz.underlying33 info_ints rfl (by decide) w.heap.size k c2 A2 ((ts.take k).map slV) (by rfl) hown2 (some ⟨w.heap.size + 1, 0, none⟩) 1 1 [(B, m, d)] slV (fun _ => rfl) (by rfl) (rd_cell (t := (B, m, d)) (hg2.cell (v := slV (B, m, d)) (cell_new _ (by simp)) (by simp [Value.ownBlock]))) (fun _ _ _ hr => hr) (by omega) (by have h1 := hb2.size; first | (simp at h1; omega) | (simp at h1 ⊢; omega) | (simp; omega) | omega) ?_; intro A3 c3 w3 hown3 hg3 hb3)
              | (refine step_appAny (R := RSl) _ rfl (.tmp 47) (.tmp 49) 33 27 rfl (.slice none 0 0) 24 Tryz.underlying33 info_ints rfl (by decide) w.heap.size k c2 A2 ((ts.take k).map slV) (by rfl) hown2 (some ⟨w.heap.size, 0, none⟩) 1 1 [(B, m, d)] slV (fun _ => rfl) (by rfl) (rd_cell (t := (B, m, d)) (hg2.cell (v := slV (B, m, d)) (cell_new2 _ _ (by simp)) (by simp [Value.ownBlock]))) (fun _ _ _ hr => hr) (by omega) (by have h1 := hb2.size; first | (simp at h1; omega) | (simp at h1 ⊢; omega) | (simp; omega) | omega) ?_; intro A3 c3 w3 hown3 hg3 hb3)
              | (refine step_appAny _ rfl (.tmp 50) (.tmp 53) 33 27 rfl (.slice none 0 0) 24 Tryz.underlying33 info_ints rfl (by decide) w.heap.size (k + 1) c3 A3 ((ts.take k).map slV ++ [slV (B, m, d)]) (by rfl) hown3 (some ⟨b, o + k, none⟩) (n - k) (c - k) (ts.drop k) slV (fun _ => rfl) (by rfl) ((hts.drop k).next stab_RSl (by refine Below.trans ?_ hb3; first | (refine Below.trans ?_ hb2; first | exact (below_drewN (Below.refl _ _) _).alloc (by simp) _ | exact ((below_drewN (Below.refl _ _) _).alloc (by simp) _).alloc (by first | (simp; done) | (simp; omega)) _) | (refine Below.alloc ?_ (by have h1 := hb2.size; first | (simp at h1; omega) | omega) _; refine Below.trans ?_ hb2; first | exact (below_drewN (Below.refl _ _) _).alloc (by simp) _ | exact ((below_drewN (Below.refl _ _) _).alloc (by simp) _).alloc (by first | (simp; done) | (simp; omega)) _))) (fun _ _ _ hr => hr) (by omega) (by have h1 := hb2.size; have h2 := hb3.size; first | (simp at h1; omega) | (simp at h1 h2; omega) | (simp at h2; omega) | omega) ?_; intro A4 c4 w4 hown4 hg4 hb4))
            all_goals
              have hF3 : Below w.heap.size w w3 := (by refine Below.trans ?_ hb3; first | (refine Below.trans ?_ hb2; first | exact (below_drewN (Below.refl _ _) _).alloc (by simp) _ | exact ((below_drewN (Below.refl _ _) _).alloc (by simp) _).alloc (by first | (simp; done) | (simp; omega)) _) | (refine Below.alloc ?_ (by have h1 := hb2.size; first | (simp at h1; omega) | omega) _; refine Below.trans ?_ hb2; first | exact (below_drewN (Below.refl _ _) _).alloc (by simp) _ | exact ((below_drewN (Below.refl _ _) _).alloc (by simp) _).alloc (by first | (simp; done) | (simp; omega)) _))
              have hF := hF3.trans hb4
              have e1 : k + 1 + (n - k) = n + 1 := by omega
              rw [e1] at hown4
              have eL : (ts.take k).map slV ++ [slV (B, m, d)] ++ (ts.drop k).map slV = ((ts.take k) ++ (B, m, d) :: ts.drop k).map slV := by simp
              rw [eL] at hown4
              obtain ⟨g4, hA4, -, hcap⟩ := own_form hown4 (by omega)
              have hres := sort_res (p := p) hown4 HTS.out hlen.out HP.out (by omega) (fun j t xs ht hx => (htr j t xs ht hx).next stab_RI hF) (hp.next stab_RI hF)
              rw [hA4] at hres
              have HA4 := Lib.hid hA4
              clear hA4 e1 eL
              go_wp2
              go_ret
              exact ⟨g4, c4, by rw [← HA4.out, show k + 1 + (n - k) = n + 1 from by omega]; rfl, hcap, hres, hF⟩
    · have hi0 : ¬ (0 : Int) < (k : Int) := by omega
      have HP : Hid (insPos p xss n = k) := by
        show _ = _
        have hk00 : k = 0 := by omega
        subst hk00
        exact H.out.symm
      go_wp2
      have hk1 : (k : Int) ≤ (c : Int) := by omega
      have hk2 : (0 : Int) ≤ (k : Int) := by omega
      have hk3 : (k : Int) ≤ (n : Int) := by omega
      obtain ⟨ts, hts, htr⟩ := h.raw
      have HTS := Lib.hid hts.len
      by_cases hkc : c = k
      · have hnk : n = k := by omega
        have HD0 : Hid (ts.drop k = []) := List.drop_eq_nil_of_le (by rw [HTS.out]; omega)
        have HNK := Lib.hid hnk
        subst hkc
        go_region_law (first
          | (refine step_appAny _ rfl (.tmp 43) (.tmp 46) 33 27 rfl (.slice none 0 0) 24 Tryz.underlying33 info_ints rfl (by decide) w.heap.size 0 0 (some ⟨w.heap.size, 0, none⟩) [] (by rfl) (by first | exact lit0 _ (by simp) | exact (lit0 _ (by simp)).alloc _) (some ⟨b, o, none⟩) c c (ts.take c) slV (fun _ => rfl) (by rfl) ((hts.take (k := c) (by omega)).next stab_RSl (by first | exact (below_drewN (Below.refl _ _) _).alloc (by simp) _ | exact ((below_drewN (Below.refl _ _) _).alloc (by simp) _).alloc (by first | (simp; done) | (simp; omega)) _)) (fun _ _ _ hr => hr) (by omega) (by first | (simp; done) | (simp; omega)) ?_; intro A2 c2 w2 hown2 hg2 hb2; simp only [Nat.zero_add, List.nil_append] at hown2)
          | (refine step_appAny _ rfl (.tmp 43) (.tmp 46) 33 27 rfl (.slice none 0 0) 24 Tryz.underlying33 info_ints rfl (by decide) w.heap.size 0 0 (some ⟨w.heap.size + 1, 0, none⟩) [] (by rfl) (lit1 _ (by simp)) (some ⟨b, o, none⟩) c c (ts.take c) slV (fun _ => rfl) (by rfl) ((hts.take (k := c) (by omega)).next stab_RSl (by first | exact (below_drewN (Below.refl _ _) _).alloc (by simp) _ | exact ((below_drewN (Below.refl _ _) _).alloc (by simp) _).alloc (by first | (simp; done) | (simp; omega)) _)) (fun _ _ _ hr => hr) (by omega) (by first | (simp; done) | (simp; omega)) ?_; intro A2 c2 w2 hown2 hg2 hb2; simp only [Nat.zero_add, List.nil_append] at hown2)
          | (refine step_appAny (R := RSl) _ rfl (.tmp 47) (.tmp 49) 33 27 rfl (.slice none 0 0) 24 Tryz.underlying33 info_ints rfl (by decide) w.heap.size c c2 A2 ((ts.take c).map slV) (by rfl) (hown2.alloc _) (some ⟨w2.heap.size, 0, none⟩) 1 1 [(B, m, d)] slV (fun _ => rfl) (by rfl) (rd_cell (t := (B, m, d)) (cell_new _ rfl)) (fun _ _ _ hr => hr) (by omega) (by have h1 := hb2.size; first | (simp at h1; omega) | (simp at h1 ⊢; omega) | (simp; omega) | omega) ?_; intro A3 c3 w3 hown3 hg3 hb3)
          | (refine step_appAny (R := RSl) _ rfl (.tmp 47) (.tmp 49) 33 27 rfl (.slice none 0 0) 24 Tryz.underlying33 info_ints rfl (by decide) w.heap.size c c2 A2 ((ts.take c).map slV) (by rfl) hown2 (some ⟨w.heap.size + 1, 0, none⟩) 1 1 [(B, m, d)] slV (fun _ => rfl) (by rfl) (rd_cell (t := (B, m, d)) (hg2.cell (v := slV (B, m, d)) (cell_new _ (by simp)) (by simp [Value.ownBlock]))) (fun _ _ _ hr => hr) (by omega) (by have h1 := hb2.size; first | (simp at h1; omega) | (simp at h1 ⊢; omega) | (simp; omega) | omega) ?_; intro A3 c3 w3 hown3 hg3 hb3)
          | (refine step_appAny (R := RSl) _ rfl (.tmp 47) (.tmp 49) 33 27 rfl (.slice none 0 0) 24 Tryz.underlying33 info_ints rfl (by decide) w.heap.size c c2 A2 ((ts.take c).map slV) (by rfl) hown2 (some ⟨w.heap.size, 0, none⟩) 1 1 [(B, m, d)] slV (fun _ => rfl) (by rfl) (rd_cell (t := (B, m, d)) (hg2.cell (v := slV (B, m, d)) (cell_new2 _ _ (by simp)) (by simp [Value.ownBlock]))) (fun _ _ _ hr => hr) (by omega) (by have h1 := hb2.size; first | (simp at h1; omega) | (simp at h1 ⊢; omega) | (simp; omega) | omega) ?_; intro A3 c3 w3 hown3 hg3 hb3)
          | (refine step_appAny _ rfl (.tmp 50) (.tmp 53) 33 27 rfl (.slice none 0 0) 24 Tryz.underlying33 info_ints rfl (by decide) w.heap.size (c + 1) c3 A3 ((ts.take c).map slV ++ [slV (B, m, d)]) (by rfl) hown3 (some ⟨b, o, none⟩) 0 0 ([] : List SlT) slV (fun _ => rfl) (by rfl) (RdL.nil _ _ _) (fun _ _ _ hr => hr) (by omega) (by have h1 := hb2.size; have h2 := hb3.size; first | (simp at h1; omega) | (simp at h1 h2; omega) | (simp at h2; omega) | omega) ?_; intro A4 c4 w4 hown4 hg4 hb4))
        all_goals
          have hF3 : Below w.heap.size w w3 := (by refine Below.trans ?_ hb3; first | (refine Below.trans ?_ hb2; first | exact (below_drewN (Below.refl _ _) _).alloc (by simp) _ | exact ((below_drewN (Below.refl _ _) _).alloc (by simp) _).alloc (by first | (simp; done) | (simp; omega)) _) | (refine Below.alloc ?_ (by have h1 := hb2.size; first | (simp at h1; omega) | omega) _; refine Below.trans ?_ hb2; first | exact (below_drewN (Below.refl _ _) _).alloc (by simp) _ | exact ((below_drewN (Below.refl _ _) _).alloc (by simp) _).alloc (by first | (simp; done) | (simp; omega)) _))
          have hF := hF3.trans hb4
          have e1 : c + 1 + 0 = n + 1 := by omega
          rw [e1] at hown4
          have eL : (ts.take c).map slV ++ [slV (B, m, d)] ++ (([] : List SlT)).map slV = ((ts.take c) ++ (B, m, d) :: ts.drop c).map slV := by simp [HD0.out]
          rw [eL] at hown4
          obtain ⟨g4, hA4, -, hcap⟩ := own_form hown4 (by omega)
          have hres := sort_res (p := p) hown4 HTS.out hlen.out HP.out (by omega) (fun j t xs ht hx => (htr j t xs ht hx).next stab_RI hF) (hp.next stab_RI hF)
          rw [hA4] at hres
          have HA4 := Lib.hid hA4
          clear hA4 e1 eL
          go_wp2
          go_ret
          exact ⟨g4, c4, by rw [← HA4.out, HNK.out]; rfl, hcap, hres, hF⟩
      · go_region_law (first
          | (refine step_appAny _ rfl (.tmp 43) (.tmp 46) 33 27 rfl (.slice none 0 0) 24 Tryz.underlying33 info_ints rfl (by decide) w.heap.size 0 0 (some ⟨w.heap.size, 0, none⟩) [] (by rfl) (by first | exact lit0 _ (by simp) | exact (lit0 _ (by simp)).alloc _) (some ⟨b, o, none⟩) k c (ts.take k) slV (fun _ => rfl) (by rfl) ((hts.take (k := k) (by omega)).next stab_RSl (by first | exact (below_drewN (Below.refl _ _) _).alloc (by simp) _ | exact ((below_drewN (Below.refl _ _) _).alloc (by simp) _).alloc (by first | (simp; done) | (simp; omega)) _)) (fun _ _ _ hr => hr) (by omega) (by first | (simp; done) | (simp; omega)) ?_; intro A2 c2 w2 hown2 hg2 hb2; simp only [Nat.zero_add, List.nil_append] at hown2)
          | (refine step_appAny _ rfl (.tmp 43) (.tmp 46) 33 27 rfl (.slice none 0 0) 24 Tryz.underlying33 info_ints rfl (by decide) w.heap.size 0 0 (some ⟨w.heap.size + 1, 0, none⟩) [] (by rfl) (lit1 _ (by simp)) (some ⟨b, o, none⟩) k c (ts.take k) slV (fun _ => rfl) (by rfl) ((hts.take (k := k) (by omega)).next stab_RSl (by first | exact (below_drewN (Below.refl _ _) _).alloc (by simp) _ | exact ((below_drewN (Below.refl _ _) _).alloc (by simp) _).alloc (by first | (simp; done) | (simp; omega)) _)) (fun _ _ _ hr => hr) (by omega) (by first | (simp; done) | (simp; omega)) ?_; intro A2 c2 w2 hown2 hg2 hb2; simp only [Nat.zero_add, List.nil_append] at hown2)
          | (refine step_appAny (R := RSl) _ rfl (.tmp 47) (.tmp 49) 33 27 rfl (.slice none 0 0) 24 Tryz.underlying33 info_ints rfl (by decide) w.heap.size k c2 A2 ((ts.take k).map slV) (by rfl) (hown2.alloc _) (some ⟨w2.heap.size, 0, none⟩) 1 1 [(B, m, d)] slV (fun _ => rfl) (by rfl) (rd_cell (t := (B, m, d)) (cell_new _ rfl)) (fun _ _ _ hr => hr) (by omega) (by have h1 := hb2.size; first | (simp at h1; omega) | (simp at h1 ⊢; omega) | (simp; omega) | omega) ?_; intro A3 c3 w3 hown3 hg3 hb3)
          | (refine step_appAny (R := RSl) _ rfl (.tmp 47) (.tmp 49) 33 27 rfl (.slice none 0 0) 24 Tryz.underlying33 info_ints rfl (by decide) w.heap.size k c2 A2 ((ts.take k).map slV) (by rfl) hown2 (some ⟨w.heap.size + 1, 0, none⟩) 1 1 [(B, m, d)] slV (fun _ => rfl) (by rfl) (rd_cell (t := (B, m, d)) (hg2.cell (v := slV (B, m, d)) (cell_new _ (by simp)) (by simp [Value.ownBlock]))) (fun _ _ _ hr => hr) (by omega) (by have h1 := hb2.size; first | (simp at h1; omega) | (simp at h1 ⊢; omega) | (simp; omega) | omega) ?_; intro A3 c3 w3 hown3 hg3 hb3)
          | (refine step_appAny (R := RSl) _ rfl (.tmp 47) (.tmp 49) 33 27 rfl (.slice none 0 0) 24 Tryz.underlying33 info_ints rfl (by decide) w.heap.size k c2 A2 ((ts.take k).map slV) (by rfl) hown2 (some ⟨w.heap.size, 0, none⟩) 1 1 [(B, m, d)] slV (fun _ => rfl) (by rfl) (rd_cell (t := (B, m, d)) (hg2.cell (v := slV (B, m, d)) (cell_new2 _ _ (by simp)) (by simp [Value.ownBlock]))) (fun _ _ _ hr => hr) (by omega) (by have h1 := hb2.size; first | (simp at h1; omega) | (simp at h1 ⊢; omega) | (simp; omega) | omega) ?_; intro A3 c3 w3 hown3 hg3 hb3)
          | (refine step_appAny _ rfl (.tmp 50) (.tmp 53) 33 27 rfl (.slice none 0 0) 24 Tryz.underlying33 info_ints rfl (by decide) w.heap.size (k + 1) c3 A3 ((ts.take k).map slV ++ [slV (B, m, d)]) (by rfl) hown3 (some ⟨b, o + k, none⟩) (n - k) (c - k) (ts.drop k) slV (fun _ => rfl) (by rfl) ((hts.drop k).next stab_RSl (by refine Below.trans ?_ hb3; first | (refine Below.trans ?_ hb2; first | exact (below_drewN (Below.refl _ _) _).alloc (by simp) _ | exact ((below_drewN (Below.refl _ _) _).alloc (by simp) _).alloc (by first | (simp; done) | (simp; omega)) _) | (refine Below.alloc ?_ (by have h1 := hb2.size; first | (simp at h1; omega) | omega) _; refine Below.trans ?_ hb2; first | exact (below_drewN (Below.refl _ _) _).alloc (by simp) _ | exact ((below_drewN (Below.refl _ _) _).alloc (by simp) _).alloc (by first | (simp; done) | (simp; omega)) _))) (fun _ _ _ hr => hr) (by omega) (by have h1 := hb2.size; have h2 := hb3.size; first | (simp at h1; omega) | (simp at h1 h2; omega) | (simp at h2; omega) | omega) ?_; intro A4 c4 w4 hown4 hg4 hb4))
        all_goals
          have hF3 : Below w.heap.size w w3 := (by refine Below.trans ?_ hb3; first | (refine Below.trans ?_ hb2; first | exact (below_drewN (Below.refl _ _) _).alloc (by simp) _ | exact ((below_drewN (Below.refl _ _) _).alloc (by simp) _).alloc (by first | (simp; done) | (simp; omega)) _) | (refine Below.alloc ?_ (by have h1 := hb2.size; first | (simp at h1; omega) | omega) _; refine Below.trans ?_ hb2; first | exact (below_drewN (Below.refl _ _) _).alloc (by simp) _ | exact ((below_drewN (Below.refl _ _) _).alloc (by simp) _).alloc (by first | (simp; done) | (simp; omega)) _))
          have hF := hF3.trans hb4
          have e1 : k + 1 + (n - k) = n + 1 := by omega
          rw [e1] at hown4
          have eL : (ts.take k).map slV ++ [slV (B, m, d)] ++ (ts.drop k).map slV = ((ts.take k) ++ (B, m, d) :: ts.drop k).map slV := by simp
          rw [eL] at hown4
          obtain ⟨g4, hA4, -, hcap⟩ := own_form hown4 (by omega)
          have hres := sort_res (p := p) hown4 HTS.out hlen.out HP.out (by omega) (fun j t xs ht hx => (htr j t xs ht hx).next stab_RI hF) (hp.next stab_RI hF)
          rw [hA4] at hres
          have HA4 := Lib.hid hA4
          clear hA4 e1 eL
          go_wp2
          go_ret
          exact ⟨g4, c4, by rw [← HA4.out, show k + 1 + (n - k) = n + 1 from by omega]; rfl, hcap, hres, hF⟩
theorem ordered_ext {α : Type} {r : α → α → Prop} (hirr : ∀ x, ¬ r x x) (htr : ∀ x y z, r x y → r y z → r x z) : ∀ {l m : List α}, l.Pairwise r → m.Pairwise r → (∀ x, x ∈ l ↔ x ∈ m) → l = m
  | [], [], _, _, _ => rfl
  | [], y :: m, _, _, h => absurd ((h y).2 (List.mem_cons_self ..)) (by simp)
  | x :: l, [], _, _, h => absurd ((h x).1 (List.mem_cons_self ..)) (by simp)
  | x :: l, y :: m, hl, hm, h => by
    have hl' := List.pairwise_cons.1 hl
    have hm' := List.pairwise_cons.1 hm
    have hxy : x = y := by
      rcases List.mem_cons.1 ((h x).1 (List.mem_cons_self ..)) with e | e
      · exact e
      · rcases List.mem_cons.1 ((h y).2 (List.mem_cons_self ..)) with e' | e'
        · exact e'.symm
        · exact absurd (htr _ _ _ (hm'.1 x e) (hl'.1 y e')) (hirr y)
    subst hxy
    rw [ordered_ext hirr htr hl'.2 hm'.2 fun z => by
      constructor
      · intro hz
        rcases List.mem_cons.1 ((h z).1 (List.mem_cons_of_mem _ hz)) with e | e
        · subst e; exact absurd (hl'.1 z hz) (hirr z)
        · exact e
      · intro hz
        rcases List.mem_cons.1 ((h z).2 (List.mem_cons_of_mem _ hz)) with e | e
        · subst e; exact absurd (hm'.1 z hz) (hirr z)
        · exact e]
theorem hasI_iff {x : Int} : ∀ {l : List Int}, hasI x l = true ↔ x ∈ l
  | [] => by simp [hasI]
  | y :: l => by
    rw [hasI, Bool.or_eq_true, hasI_iff (l := l), beq_iff_eq, List.mem_cons]
    constructor
    · rintro (h | h)
      · exact .inl h.symm
      · exact .inr h
    · rintro (h | h)
      · exact .inl h.symm
      · exact .inr h
theorem rises_iff : ∀ {l : List Int}, risesL l = true ↔ l.Pairwise (· < ·)
  | [] => by simp [risesL]
  | [x] => by simp [risesL]
  | x :: y :: l => by
    rw [risesL, Bool.and_eq_true, rises_iff (l := y :: l), decide_eq_true_eq]
    constructor
    · rintro ⟨h1, h2⟩
      refine List.pairwise_cons.2 ⟨fun z hz => ?_, h2⟩
      rcases List.mem_cons.1 hz with rfl | hz
      · exact h1
      · have := (List.pairwise_cons.1 h2).1 z hz; omega
    · intro h
      obtain ⟨h1, h2⟩ := List.pairwise_cons.1 h
      exact ⟨h1 y (List.mem_cons_self ..), h2⟩
theorem allIn_iff {a b : Int} : ∀ {l : List Int}, allIn a b l = true ↔ ∀ x ∈ l, a ≤ x ∧ x ≤ b
  | [] => by simp [allIn]
  | y :: l => by simp [allIn, allIn_iff (l := l), inB]
/-- A set of numbers from 0 on, below n. -/
def IsSet (n : Nat) (p : List Int) : Prop := p.Pairwise (· < ·) ∧ ∀ x ∈ p, 0 ≤ x ∧ x < (n : Int)
theorem setB_iff {n : Nat} {p : List Int} : setB n p = true ↔ IsSet n p := by
  unfold setB IsSet
  rw [Bool.and_eq_true, rises_iff, allIn_iff]
  constructor
  · rintro ⟨h1, h2⟩
    exact ⟨h2, fun x hx => by have := h1 x hx; omega⟩
  · rintro ⟨h1, h2⟩
    exact ⟨fun x hx => by have := h2 x hx; omega, h1⟩
theorem set_ext {n m : Nat} {p q : List Int} (hp : IsSet n p) (hq : IsSet m q) (h : ∀ x, x ∈ p ↔ x ∈ q) : p = q :=
  ordered_ext (r := fun (a b : Int) => a < b) (fun x => by omega) (fun x y z => by omega) hp.1 hq.1 h
theorem mem_upTo {n : Nat} {x : Int} : x ∈ upTo n ↔ 0 ≤ x ∧ x < (n : Int) := by
  unfold upTo
  rw [List.mem_map]
  constructor
  · rintro ⟨k, hk, rfl⟩
    have := List.mem_range.1 hk
    omega
  · rintro ⟨h1, h2⟩
    exact ⟨x.toNat, List.mem_range.2 (by omega), by omega⟩
theorem lessL_irr : ∀ l : List Int, lessL l l = false
  | [] => rfl
  | x :: l => by simp [lessL, lessL_irr l]
theorem lessL_trans : ∀ {p q r : List Int}, p.length = q.length → q.length = r.length → lessL p q = true → lessL q r = true → lessL p r = true
  | [], _, _, _, _, h, _ => by simp [lessL] at h
  | x :: p, [], _, h, _, _, _ => by simp at h
  | x :: p, y :: q, [], _, h, _, _ => by simp at h
  | x :: p, y :: q, z :: r, h1, h2, h3, h4 => by
    simp only [List.length_cons, Nat.add_right_cancel_iff] at h1 h2
    simp only [lessL] at h3 h4 ⊢
    by_cases e1 : x = y
    · subst e1
      simp only [beq_self_eq_true, if_true] at h3
      by_cases e2 : x = z
      · subst e2
        simp only [beq_self_eq_true, if_true] at h4 ⊢
        exact lessL_trans h1 h2 h3 h4
      · have e2' : (x == z) = false := beq_eq_false_iff_ne.2 e2
        rw [e2'] at h4 ⊢
        exact h4
    · have e1' : (x == y) = false := beq_eq_false_iff_ne.2 e1
      rw [e1'] at h3
      simp at h3
      by_cases e2 : y = z
      · subst e2
        rw [e1']
        simp [h3]
      · have e2' : (y == z) = false := beq_eq_false_iff_ne.2 e2
        rw [e2'] at h4
        simp at h4
        have e3 : (x == z) = false := beq_eq_false_iff_ne.2 (by omega)
        rw [e3]
        simp; omega
theorem lessL_total : ∀ {p q : List Int}, p.length = q.length → p = q ∨ lessL p q = true ∨ lessL q p = true
  | [], [], _ => .inl rfl
  | [], _ :: _, h => by simp at h
  | _ :: _, [], h => by simp at h
  | x :: p, y :: q, h => by
    simp only [List.length_cons, Nat.add_right_cancel_iff] at h
    simp only [lessL]
    rcases Int.lt_trichotomy x y with h1 | h1 | h1
    · right; left
      rw [beq_eq_false_iff_ne.2 (by omega : x ≠ y)]
      simp [h1]
    · subst h1
      simp only [beq_self_eq_true, if_true]
      rcases lessL_total h with rfl | h2 | h2
      · exact .inl rfl
      · exact .inr (.inl h2)
      · exact .inr (.inr h2)
    · right; right
      rw [beq_eq_false_iff_ne.2 (by omega : y ≠ x)]
      simp [h1]
theorem lessT_iff {p q : List Int} : lessT p q = true ↔ p.length < q.length ∨ (p.length = q.length ∧ lessL p q = true) := by
  unfold lessT
  rw [Bool.or_eq_true, Bool.and_eq_true, decide_eq_true_eq, decide_eq_true_eq]
theorem lessT_irr (p : List Int) : ¬ lessT p p = true := by
  rw [lessT_iff, lessL_irr]
  simp
theorem lessT_trans (p q r : List Int) (h1 : lessT p q = true) (h2 : lessT q r = true) : lessT p r = true := by
  rw [lessT_iff] at *
  rcases h1 with h1 | ⟨h1, h1'⟩ <;> rcases h2 with h2 | ⟨h2, h2'⟩
  · left; omega
  · left; omega
  · left; omega
  · exact .inr ⟨by omega, lessL_trans h1 h2 h1' h2'⟩
theorem lessT_total (p q : List Int) : p = q ∨ lessT p q = true ∨ lessT q p = true := by
  rw [lessT_iff, lessT_iff]
  rcases Nat.lt_trichotomy p.length q.length with h | h | h
  · exact .inr (.inl (.inl h))
  · rcases lessL_total h with h' | h' | h'
    · exact .inl h'
    · exact .inr (.inl (.inr ⟨h, h'⟩))
    · exact .inr (.inr (.inr ⟨h.symm, h'⟩))
  · exact .inr (.inr (.inl h))
theorem lexL_lessL : ∀ {p q : List Int}, p.length = q.length → (lexL p q < 0 ↔ lessL p q = true)
  | [], [], _ => by simp [lexL, lessL]
  | [], _ :: _, h => by simp at h
  | _ :: _, [], h => by simp at h
  | x :: p, y :: q, h => by
    simp only [List.length_cons, Nat.add_right_cancel_iff] at h
    simp only [lexL, lessL]
    by_cases e : x = y
    · subst e
      simp only [beq_self_eq_true, if_true]
      exact lexL_lessL h
    · rw [beq_eq_false_iff_ne.2 e]
      by_cases h2 : x < y
      · simp [h2]
      · simp [h2]
theorem cmpT_lt {p q : List Int} : cmpT p q < 0 ↔ lessT p q = true := by
  rw [lessT_iff]
  unfold cmpT
  by_cases h1 : p.length < q.length
  · simp [h1]
  · by_cases h2 : q.length < p.length
    · rw [if_neg h1, if_pos h2]
      constructor
      · intro h; omega
      · rintro (h | ⟨h, _⟩) <;> omega
    · rw [if_neg h1, if_neg h2]
      have h3 : p.length = q.length := by omega
      rw [lexL_lessL h3]
      constructor
      · intro h; exact .inr ⟨h3, h⟩
      · rintro (h | ⟨_, h⟩)
        · exact absurd h h1
        · exact h
def Srt (xss : List (List Int)) : Prop := xss.Pairwise fun p q => lessT p q = true
theorem Srt.ext {xss yss : List (List Int)} (h1 : Srt xss) (h2 : Srt yss) (h : ∀ p, p ∈ xss ↔ p ∈ yss) : xss = yss :=
  ordered_ext (r := fun p q => lessT p q = true) lessT_irr lessT_trans h1 h2 h
theorem mem_insT {p q : List Int} {xss : List (List Int)} : q ∈ insT p xss ↔ q = p ∨ q ∈ xss := by
  unfold insT
  rw [List.mem_append, List.mem_cons]
  have := List.take_append_drop (insPos p xss xss.length) xss
  constructor
  · rintro (h | h | h)
    · exact .inr (List.mem_of_mem_take h)
    · exact .inl h
    · exact .inr (List.mem_of_mem_drop h)
  · rintro (h | h)
    · exact .inr (.inl h)
    · rw [← this] at h
      rcases List.mem_append.1 h with h | h
      · exact .inl h
      · exact .inr (.inr h)
/-- What stands at and behind the place of insertion goes behind, what stands ahead of it ahead. -/
theorem insPos_spec (p : List Int) {xss : List (List Int)} (hs : Srt xss) (hp : p ∉ xss) : ∀ n, n ≤ xss.length →
    (∀ j, insPos p xss n ≤ j → (hj : j < n) → ∀ (h : j < xss.length), lessT p xss[j] = true) ∧ (∀ j, j < insPos p xss n → ∀ (h : j < xss.length), lessT xss[j] p = true)
  | 0, _ => ⟨fun j _ hj => absurd hj (by omega), fun j hj => absurd hj (by simp [insPos])⟩
  | n + 1, hn => by
    have hl : n < xss.length := by omega
    have ih := insPos_spec p hs hp n (by omega)
    have hg : xss.getD n [] = xss[n] := by simp [List.getD_eq_getElem?_getD, List.getElem?_eq_getElem hl]
    rw [insPos, hg]
    by_cases h : lessT p xss[n] = true
    · rw [if_pos h]
      refine ⟨fun j h1 h2 h3 => ?_, ih.2⟩
      by_cases hjn : j = n
      · subst hjn; exact h
      · exact ih.1 j h1 (by omega) h3
    · rw [if_neg h]
      refine ⟨fun j h1 h2 => absurd h2 (by omega), fun j hj h3 => ?_⟩
      have hn' : lessT xss[n] p = true := by
        rcases lessT_total p xss[n] with e | e | e
        · exact absurd (e ▸ List.getElem_mem hl) hp
        · exact absurd e h
        · exact e
      by_cases hjn : j = n
      · subst hjn; exact hn'
      · have := List.pairwise_iff_getElem.1 hs j n h3 hl (by omega)
        exact lessT_trans _ _ _ this hn'
theorem Srt.insT {p : List Int} {xss : List (List Int)} (hs : Srt xss) (hp : p ∉ xss) : Srt (insT p xss) := by
  obtain ⟨h1, h2⟩ := insPos_spec p hs hp xss.length (Nat.le_refl _)
  have hle := insPos_le p xss xss.length
  unfold Go.Proofs.YtbkgbckbbnflpaaGreat.insT
  unfold Srt at *
  rw [List.pairwise_append, List.pairwise_cons]
  have hsplit := List.take_append_drop (insPos p xss xss.length) xss
  have hs' := hs
  rw [← hsplit, List.pairwise_append] at hs'
  refine ⟨hs'.1, ⟨fun q hq => ?_, hs'.2.1⟩, fun a ha b hb => ?_⟩
  · obtain ⟨j, hj⟩ := List.getElem?_of_mem hq
    rw [List.getElem?_drop] at hj
    obtain ⟨hl, he⟩ := List.getElem?_eq_some_iff.1 hj
    rw [← he]
    exact h1 _ (by omega) hl hl
  · have hap : lessT a p = true := by
      obtain ⟨j, hj⟩ := List.getElem?_of_mem ha
      rw [List.getElem?_take] at hj
      split at hj
      · rename_i hjk
        obtain ⟨hl, he⟩ := List.getElem?_eq_some_iff.1 hj
        rw [← he]
        exact h2 _ hjk hl
      · cases hj
    rcases List.mem_cons.1 hb with rfl | hb
    · exact hap
    · exact hs'.2.2 a ha b hb
theorem Srt.nodup {xss : List (List Int)} (hs : Srt xss) : xss.Nodup :=
  List.Pairwise.imp (fun {a b} (h : lessT a b = true) (e : a = b) => lessT_irr b (by rw [e] at h; exact h)) hs
theorem nodup_len {α : Type} [DecidableEq α] : ∀ {l m : List α}, l.Nodup → (∀ x ∈ l, x ∈ m) → l.length ≤ m.length
  | [], _, _, _ => Nat.zero_le _
  | x :: l, m, h, hs => by
    have hx := hs x (List.mem_cons_self ..)
    have h' := List.nodup_cons.1 h
    have := nodup_len (l := l) (m := m.erase x) h'.2 fun y hy => (List.mem_erase_of_ne (by rintro rfl; exact h'.1 hy)).2 (hs y (List.mem_cons_of_mem _ hy))
    rw [List.length_erase_of_mem hx] at this
    have hpos : 0 < m.length := List.length_pos_of_mem hx
    simp
    omega
/-- Closed under the operations. -/
def ClosedM (n : Nat) (ops : List OpM) (M : Nat → Bool) : Prop := ∀ o ∈ ops, ∀ i, i < o.2.length → (∀ d ∈ digs n o.1.toNat i, M d = true) → M (nmAt o.2 i) = true
def LeM (n : Nat) (B M : Nat → Bool) : Prop := ∀ y, y < n → B y = true → M y = true
/-- In every closed set that has the set B. -/
def InCl (n : Nat) (ops : List OpM) (B : Nat → Bool) (y : Nat) : Prop := ∀ M, ClosedM n ops M → LeM n B M → M y = true
noncomputable def clB (n : Nat) (ops : List OpM) (B : Nat → Bool) (y : Nat) : Bool := tt (InCl n ops B y)
theorem LeM.refl (n : Nat) (B : Nat → Bool) : LeM n B B := fun _ _ h => h
theorem clB_closed (n : Nat) (ops : List OpM) (B : Nat → Bool) : ClosedM n ops (clB n ops B) := fun o ho i hi hd => tt_iff.2 fun M hM hB => hM o ho i hi fun d hd' => tt_iff.1 (hd d hd') M hM hB
theorem clB_sup (n : Nat) (ops : List OpM) (B : Nat → Bool) : LeM n B (clB n ops B) := fun y hy h => tt_iff.2 fun _ _ hB => hB y hy h
theorem clB_least {n : Nat} {ops : List OpM} {B M : Nat → Bool} (hc : ClosedM n ops M) (hs : LeM n B M) : LeM n (clB n ops B) M := fun _ _ h => tt_iff.1 h M hc hs
theorem cl_eq {n : Nat} {ops : List OpM} {B H : Nat → Bool} (hs : LeM n B H) (hc : ClosedM n ops H) (hl : LeM n H (clB n ops B)) {y : Nat} (hy : y < n) : H y = clB n ops B y := by
  rcases e : H y with _ | _
  · rcases e2 : clB n ops B y with _ | _
    · rfl
    · have := clB_least hc hs y hy e2
      rw [e] at this
      cases this
  · exact (hl y hy e).symm
/-- What is not marked. -/
def offs (L : List Bool) : Nat := L.countP fun b => !b
theorem offs_set : ∀ {L : List Bool} {x : Nat}, L[x]? = some false → offs (L.set x true) + 1 = offs L
  | [], x, h => by simp at h
  | b :: L, 0, h => by
    simp only [List.getElem?_cons_zero, Option.some.injEq] at h
    subst h
    simp [offs]
  | b :: L, x + 1, h => by
    simp only [List.getElem?_cons_succ] at h
    have ih := offs_set h
    unfold offs at ih ⊢
    simp only [List.set_cons_succ, List.countP_cons]
    omega
theorem offs_le (L : List Bool) : offs L ≤ L.length := List.countP_le_length
/-- The rounds of the program: L is what is marked, L0 what was marked at first. -/
structure ClI (n : Nat) (ops : List OpM) (L0 L : List Bool) : Prop where
  len : L.length = n
  sup : LeM n (gB L0) (gB L)
  least : LeM n (gB L) (clB n ops (gB L0))
theorem ClI.start {n : Nat} {ops : List OpM} {L0 : List Bool} (h : L0.length = n) : ClI n ops L0 L0 := ⟨h, LeM.refl _ _, clB_sup _ _ _⟩
def AllM (n k i : Nat) (L : List Bool) : Bool := (digs n k i).all (gB L)
theorem ClI.mark {n : Nat} {ops : List OpM} {L0 L : List Bool} (h : ClI n ops L0 L) (hn : 0 < n) {o : OpM} (ho : o ∈ ops) {i v : Nat} (hv : o.2[i]? = some (v : Int)) (hvn : v < n) (hA : AllM n o.1.toNat i L = true) : ClI n ops L0 (L.set v true) := by
  have hl := h.len
  refine ⟨by rw [List.length_set]; exact hl, fun y hy hb => ?_, fun y hy hb => ?_⟩
  · rw [gB_set (by omega)]
    split
    · rfl
    · exact h.sup y hy hb
  · rw [gB_set (by omega)] at hb
    split at hb
    · rename_i e
      subst e
      have hi := (List.getElem?_eq_some_iff.1 hv).1
      have := clB_closed n ops (gB L0) o ho i hi fun d hd => h.least d (digs_lt hn hd) (List.all_eq_true.1 hA d hd)
      rwa [nmAt_get hv] at this
    · exact h.least y hy hb
/-- Nothing is to be marked at an entry of a table. -/
def OkE (n : Nat) (L : List Bool) (o : OpM) (i : Nat) : Prop := AllM n o.1.toNat i L = true → gB L (nmAt o.2 i) = true
theorem ClI.done {n : Nat} {ops : List OpM} {L0 L : List Bool} (h : ClI n ops L0 L) (hk : ∀ o ∈ ops, ∀ i, i < o.2.length → OkE n L o i) {y : Nat} (hy : y < n) : gB L y = clB n ops (gB L0) y :=
  cl_eq h.sup (fun o ho i hi hd => hk o ho i hi (List.all_eq_true.2 hd)) h.least hy
/-- One step: everything that an operation gives of what is marked. -/
def StP (n : Nat) (ops : List OpM) (L : List Bool) (y : Nat) : Prop := ∃ o ∈ ops, ∃ i, i < o.2.length ∧ AllM n o.1.toNat i L = true ∧ nmAt o.2 i = y
noncomputable def stL (n : Nat) (ops : List OpM) (L : List Bool) : List Bool := (List.range n).map fun y => gB L y || tt (StP n ops L y)
theorem stL_len (n : Nat) (ops : List OpM) (L : List Bool) : (stL n ops L).length = n := by simp [stL]
theorem stL_get {n : Nat} {ops : List OpM} {L : List Bool} {y : Nat} (hy : y < n) : gB (stL n ops L) y = (gB L y || tt (StP n ops L y)) := by
  refine gB_get ?_
  unfold stL
  rw [List.getElem?_map, List.getElem?_range hy]
  rfl
noncomputable def stN (n : Nat) (ops : List OpM) : Nat → List Bool → List Bool
  | 0, L => L
  | k + 1, L => stL n ops (stN n ops k L)
theorem stN_len {n : Nat} {ops : List OpM} {L : List Bool} (h : L.length = n) : ∀ k, (stN n ops k L).length = n
  | 0 => h
  | k + 1 => stL_len _ _ _
theorem offs_lt : ∀ {L M : List Bool}, L.length = M.length → (∀ y, gB L y = true → gB M y = true) → L ≠ M → offs M < offs L
  | [], [], _, _, h => absurd rfl h
  | [], _ :: _, h, _, _ => by simp at h
  | _ :: _, [], h, _, _ => by simp at h
  | a :: L, b :: M, hl, hle, hne => by
    have h0 := hle 0
    have hs : ∀ y, gB L y = true → gB M y = true := fun y => by
      have := hle (y + 1)
      simpa [gB] using this
    have hl' : L.length = M.length := by simpa using hl
    have hge : offs M ≤ offs L := by
      by_cases e : L = M
      · rw [e]; exact Nat.le_refl _
      · exact Nat.le_of_lt (offs_lt hl' hs e)
    by_cases e : L = M
    · subst e
      have hab : a ≠ b := fun e => hne (by rw [e])
      have h1 : a = false ∧ b = true := by
        rcases a with _ | _ <;> rcases b with _ | _
        · exact absurd rfl hab
        · exact ⟨rfl, rfl⟩
        · have := h0 (by simp [gB]); simp [gB] at this
        · exact absurd rfl hab
      obtain ⟨rfl, rfl⟩ := h1
      simp [offs]
    · have := offs_lt hl' hs e
      have hab : a = true → b = true := fun e => by have := h0 (by simp [gB, e]); simpa [gB] using this
      unfold offs at this hge ⊢
      simp only [List.countP_cons]
      rcases a with _ | _ <;> rcases b with _ | _ <;> simp_all <;> omega
theorem stL_up {n : Nat} {ops : List OpM} {L : List Bool} (hl : L.length = n) (y : Nat) (h : gB L y = true) : gB (stL n ops L) y = true := by
  have hy : y < n := by
    rcases Nat.lt_or_ge y n with h1 | h1
    · exact h1
    · unfold gB at h
      rw [List.getD_eq_getElem?_getD, List.getElem?_eq_none (by omega)] at h
      cases h
  rw [stL_get hy, h]
  rfl
theorem stN_cnt {n : Nat} {ops : List OpM} {L : List Bool} (hl : L.length = n) : ∀ k, stL n ops (stN n ops k L) = stN n ops k L ∨ k + offs (stN n ops k L) ≤ n
  | 0 => .inr (by have := offs_le L; show 0 + offs L ≤ n; omega)
  | k + 1 => by
    by_cases e : stL n ops (stN n ops k L) = stN n ops k L
    · left
      show stL n ops (stL n ops (stN n ops k L)) = stL n ops (stN n ops k L)
      rw [e, e]
    · right
      have h1 : k + offs (stN n ops k L) ≤ n := (stN_cnt hl k).resolve_left e
      have h2 := offs_lt (L := stN n ops k L) (M := stL n ops (stN n ops k L)) (by rw [stN_len hl, stL_len]) (fun y => stL_up (stN_len hl k) y) (Ne.symm e)
      show k + 1 + offs (stL n ops (stN n ops k L)) ≤ n
      omega
theorem stN_fix {n : Nat} {ops : List OpM} {L : List Bool} (hl : L.length = n) : stL n ops (stN n ops (n + 1) L) = stN n ops (n + 1) L := by
  rcases stN_cnt (ops := ops) hl (n + 1) with h | h
  · exact h
  · omega
theorem stN_inv {n : Nat} {ops : List OpM} {L : List Bool} (hn : 0 < n) (hl : L.length = n) : ∀ k, LeM n (gB L) (gB (stN n ops k L)) ∧ LeM n (gB (stN n ops k L)) (clB n ops (gB L))
  | 0 => ⟨LeM.refl _ _, clB_sup _ _ _⟩
  | k + 1 => by
    obtain ⟨h1, h2⟩ := stN_inv hn hl k
    refine ⟨fun y hy h => stL_up (stN_len hl k) y (h1 y hy h), fun y hy h => ?_⟩
    have h3 : gB (stL n ops (stN n ops k L)) y = true := h
    rw [stL_get hy, Bool.or_eq_true] at h3
    rcases h3 with h3 | h3
    · exact h2 y hy h3
    · obtain ⟨o, ho, i, hi, hA, rfl⟩ := tt_iff.1 h3
      exact clB_closed n ops (gB L) o ho i hi fun d hd => h2 d (digs_lt hn hd) (List.all_eq_true.1 hA d hd)
theorem stN_cl {n : Nat} {ops : List OpM} {L : List Bool} (hn : 0 < n) (hl : L.length = n) (hops : ∀ o ∈ ops, ∀ v ∈ o.2, 0 ≤ v ∧ v ≤ (n : Int) - 1) {y : Nat} (hy : y < n) : gB (stN n ops (n + 1) L) y = clB n ops (gB L) y := by
  obtain ⟨h1, h2⟩ := stN_inv (ops := ops) hn hl (n + 1)
  refine cl_eq h1 (fun o ho i hi hd => ?_) h2 hy
  have hv := hops o ho _ (List.getElem_mem hi)
  have hvn : nmAt o.2 i < n := by
    rw [nmAt_get (List.getElem?_eq_getElem hi)]
    omega
  rw [← stN_fix hl, stL_get hvn, ← tt_true (show StP n ops (stN n ops (n + 1) L) (nmAt o.2 i) from ⟨o, ho, i, hi, List.all_eq_true.2 hd, rfl⟩), Bool.or_true]
/-- What some elements generate. -/
noncomputable def genL (n : Nat) (ops : List OpM) (S : List Int) : List Int := markL n (clB n ops (gB (inL n S)))
/-- A partition of n elements: each is told by the least element of its block. -/
def ParI (p : List Int) (i : Nat) : Prop := 0 ≤ p.getD i 0 ∧ nmAt p i ≤ i ∧ nmAt p (nmAt p i) = nmAt p i
def ParP (n : Nat) (p : List Int) : Prop := p.length = n ∧ ∀ i, i < n → ParI p i
theorem ParP.at {n : Nat} {p : List Int} (h : ParP n p) {i : Nat} (hi : i < n) : p[i]? = some (nmAt p i : Int) ∧ nmAt p i ≤ i ∧ nmAt p (nmAt p i) = nmAt p i := by
  obtain ⟨h1, h2, h3⟩ := h.2 i hi
  refine ⟨?_, h2, h3⟩
  have hl : i < p.length := by rw [h.1]; exact hi
  unfold nmAt
  rw [List.getD_eq_getElem?_getD, List.getElem?_eq_getElem hl] at h1 ⊢
  simp only [Option.getD_some] at h1 ⊢
  congr 1
  omega
def uniV (a b v : Int) : Int := if v = (if a ≤ b then b else a) then (if a ≤ b then a else b) else v
/-- The blocks of two elements in one. -/
def uniL (p : List Int) (x y : Nat) : List Int := p.map (uniV (nmAt p x) (nmAt p y))
theorem uniL_len (p : List Int) (x y : Nat) : (uniL p x y).length = p.length := by simp [uniL]
theorem uni_same {p : List Int} {x y : Nat} (h : nmAt p x = nmAt p y) : uniL p x y = p := by
  unfold uniL
  rw [h]
  refine (List.map_congr_left (g := id) fun v _ => ?_).trans (List.map_id p)
  unfold uniV
  simp only [Int.le_refl, if_true]
  split
  · rename_i e; exact e.symm
  · rfl
section
variable {n : Nat} {p : List Int} (hp : ParP n p)
include hp
theorem uni_at {x y i : Nat} (hi : i < n) : nmAt (uniL p x y) i = if nmAt p i = max (nmAt p x) (nmAt p y) then min (nmAt p x) (nmAt p y) else nmAt p i := by
  have h1 : (uniL p x y)[i]? = some (uniV (nmAt p x) (nmAt p y) (nmAt p i)) := by
    unfold uniL
    rw [List.getElem?_map, (hp.at hi).1]
    rfl
  rw [nmAt_get h1]
  unfold uniV
  by_cases hxy : nmAt p x ≤ nmAt p y
  · have h2 : ((nmAt p x : Nat) : Int) ≤ ((nmAt p y : Nat) : Int) := by omega
    rw [if_pos h2, if_pos h2, Nat.max_eq_right hxy, Nat.min_eq_left hxy]
    by_cases e : nmAt p i = nmAt p y
    · rw [if_pos e, if_pos (by rw [e])]; omega
    · rw [if_neg e, if_neg (by omega)]; omega
  · have h2 : ¬ ((nmAt p x : Nat) : Int) ≤ ((nmAt p y : Nat) : Int) := by omega
    rw [if_neg h2, if_neg h2, Nat.max_eq_left (by omega), Nat.min_eq_right (by omega)]
    by_cases e : nmAt p i = nmAt p x
    · rw [if_pos e, if_pos (by rw [e])]; omega
    · rw [if_neg e, if_neg (by omega)]; omega
theorem par_lt {i : Nat} (hi : i < n) : nmAt p i < n := by have := (hp.at hi).2.1; omega
theorem uni_par {x y : Nat} (hx : x < n) (hy : y < n) : ParP n (uniL p x y) := by
  have hxl := par_lt hp hx
  have hyl := par_lt hp hy
  have hmin : min (nmAt p x) (nmAt p y) < n := by omega
  have hmm : nmAt p (min (nmAt p x) (nmAt p y)) = min (nmAt p x) (nmAt p y) := by
    rcases Nat.le_total (nmAt p x) (nmAt p y) with h | h
    · rw [Nat.min_eq_left h]; exact (hp.at hx).2.2
    · rw [Nat.min_eq_right h]; exact (hp.at hy).2.2
  refine ⟨by rw [uniL_len]; exact hp.1, fun i hi => ?_⟩
  have e := uni_at hp (x := x) (y := y) hi
  have h1 := hp.at hi
  refine ⟨?_, ?_, ?_⟩
  · unfold uniL
    rw [List.getD_eq_getElem?_getD, List.getElem?_map, h1.1]
    show 0 ≤ uniV _ _ _
    unfold uniV
    split
    · split <;> omega
    · omega
  · rw [e]
    split
    · omega
    · exact h1.2.1
  · rw [e]
    by_cases h2 : nmAt p i = max (nmAt p x) (nmAt p y)
    · rw [if_pos h2, uni_at hp hmin, hmm]
      split <;> rfl
    · rw [if_neg h2, uni_at hp (par_lt hp hi), h1.2.2, if_neg h2]
/-- Coarser. -/
theorem uni_keep {x y i j : Nat} (hi : i < n) (hj : j < n) (h : nmAt p i = nmAt p j) : nmAt (uniL p x y) i = nmAt (uniL p x y) j := by rw [uni_at hp hi, uni_at hp hj, h]
theorem uni_joins {x y : Nat} (hx : x < n) (hy : y < n) : nmAt (uniL p x y) x = nmAt (uniL p x y) y := by
  rw [uni_at hp hx, uni_at hp hy]
  rcases Nat.le_total (nmAt p x) (nmAt p y) with h | h
  · rw [Nat.max_eq_right h, Nat.min_eq_left h, if_pos rfl]
    split <;> omega
  · rw [Nat.max_eq_left h, Nat.min_eq_right h, if_pos rfl]
    split <;> omega
omit hp in
/-- The elements that tell blocks. -/
def fixs (n : Nat) (p : List Int) : Nat := ((List.range n).filter fun i => nmAt p i == i).length
omit hp in
theorem filter_lt {α : Type} {P Q : α → Bool} : ∀ {l : List α}, (∀ a ∈ l, P a = true → Q a = true) → (∃ a ∈ l, Q a = true ∧ P a = false) → (l.filter P).length < (l.filter Q).length
  | [], _, ⟨a, ha, _⟩ => by cases ha
  | b :: l, h, ⟨a, ha, h1, h2⟩ => by
    have hle : (l.filter P).length ≤ (l.filter Q).length := by
      rw [← List.countP_eq_length_filter, ← List.countP_eq_length_filter]
      exact List.countP_mono_left fun x hx => h x (List.mem_cons_of_mem _ hx)
    rcases List.mem_cons.1 ha with rfl | ha
    · rw [List.filter_cons_of_neg (by rw [h2]; decide), List.filter_cons_of_pos h1]
      simp only [List.length_cons]
      omega
    · have ih := filter_lt (fun x hx => h x (List.mem_cons_of_mem _ hx)) ⟨a, ha, h1, h2⟩
      have hb := h b List.mem_cons_self
      rcases e1 : P b with _ | _
      · rw [List.filter_cons_of_neg (by rw [e1]; decide)]
        rcases e2 : Q b with _ | _
        · rw [List.filter_cons_of_neg (by rw [e2]; decide)]; exact ih
        · rw [List.filter_cons_of_pos e2]; simp only [List.length_cons]; omega
      · rw [List.filter_cons_of_pos e1, List.filter_cons_of_pos (hb e1)]
        simp only [List.length_cons]
        omega
theorem uni_fixs {x y : Nat} (hx : x < n) (hy : y < n) (h : nmAt p x ≠ nmAt p y) : fixs n (uniL p x y) < fixs n p := by
  have hm : max (nmAt p x) (nmAt p y) < n := by have := par_lt hp hx; have := par_lt hp hy; omega
  have hmm : nmAt p (max (nmAt p x) (nmAt p y)) = max (nmAt p x) (nmAt p y) := by
    rcases Nat.le_total (nmAt p x) (nmAt p y) with h | h
    · rw [Nat.max_eq_right h]; exact (hp.at hy).2.2
    · rw [Nat.max_eq_left h]; exact (hp.at hx).2.2
  refine filter_lt (fun i hi h1 => ?_) ⟨max (nmAt p x) (nmAt p y), List.mem_range.2 hm, by simpa using hmm, ?_⟩
  · rw [List.mem_range] at hi
    rw [beq_iff_eq, uni_at hp hi] at h1
    rw [beq_iff_eq]
    split at h1
    · rename_i e
      have := (hp.at hi).2.1
      omega
    · exact h1
  · rw [beq_eq_false_iff_ne, uni_at hp hm, hmm, if_pos rfl]
    omega
end
/-- The index with another digit. -/
def repI (n k : Nat) (p : List Int) (i j : Nat) : Nat := idx n ((digs n k i).set j (nmAt p ((digs n k i).getD j 0)))
def PrE (n : Nat) (p : List Int) (o : OpM) (i j : Nat) : Prop := nmAt p (nmAt o.2 i) = nmAt p (nmAt o.2 (repI n o.1.toNat p i j))
def CompP (n : Nat) (ops : List OpM) (p : List Int) : Prop := ∀ o ∈ ops, ∀ j, j < o.1.toNat → ∀ i, i < o.2.length → PrE n p o i j
theorem repI_lt {n k : Nat} {p : List Int} (hn : 0 < n) (hp : ParP n p) {i j : Nat} : repI n k p i j < n ^ k := by
  refine idx_lt k _ (by rw [List.length_set, digs_len]) fun d hd => ?_
  rcases List.mem_or_eq_of_mem_set hd with h | h
  · exact digs_lt hn h
  · subst h
    refine par_lt hp ?_
    rw [List.getD_eq_getElem?_getD]
    rcases e : (digs n k i)[j]? with _ | d
    · exact hn
    · exact digs_lt hn (List.mem_of_getElem? e)
/-- A digit, and the index with another one in its place. -/
theorem rep_step {n : Nat} : ∀ (k q i d : Nat), q < k → (digs n k i).getD (k - 1 - q) 0 = i / n ^ q % n ∧ idx n (digs n k i) + d * n ^ q = idx n ((digs n k i).set (k - 1 - q) d) + (i / n ^ q % n) * n ^ q
  | 0, q, i, d, h => by omega
  | k + 1, 0, i, d, h => by
    have hl : (digs n k (i / n)).length = k := digs_len n k _
    rw [digs]
    simp only [Nat.add_sub_cancel, Nat.sub_zero, Nat.pow_zero, Nat.div_one, Nat.mul_one]
    refine ⟨?_, ?_⟩
    · rw [List.getD_eq_getElem?_getD, List.getElem?_append_right (by omega), hl]
      simp
    · rw [List.set_append_right _ _ (by omega), hl]
      simp only [Nat.sub_self, List.set_cons_zero, idx_snoc]
      omega
  | k + 1, q + 1, i, d, h => by
    have hl : (digs n k (i / n)).length = k := digs_len n k _
    obtain ⟨h1, h2⟩ := rep_step (n := n) k q (i / n) d (by omega)
    have e1 : k + 1 - 1 - (q + 1) = k - 1 - q := by omega
    have e2 : i / n ^ (q + 1) = i / n / n ^ q := by rw [Nat.pow_succ, Nat.mul_comm, Nat.div_div_eq_div_mul]
    rw [digs, e1, e2]
    refine ⟨?_, ?_⟩
    · rw [List.getD_eq_getElem?_getD, List.getElem?_append_left (by omega), ← List.getD_eq_getElem?_getD]
      exact h1
    · rw [List.set_append_left _ _ (by omega), idx_snoc, idx_snoc]
      have h3 := congrArg (· * n) h2
      simp only [Nat.add_mul] at h3
      rw [Nat.pow_succ, ← Nat.mul_assoc, ← Nat.mul_assoc]
      omega
/-- As the program reckons it. -/
theorem rep_prog {n k q i : Nat} {p : List Int} (hn : 0 < n) (hq : q < k) (hi : i < n ^ k) : (repI n k p i (k - 1 - q) : Int) = (i : Int) + ((nmAt p (i / n ^ q % n) : Int) - ((i / n ^ q % n : Nat) : Int)) * ((n ^ q : Nat) : Int) := by
  obtain ⟨h1, h2⟩ := rep_step (n := n) k q i (nmAt p (i / n ^ q % n)) hq
  unfold repI
  rw [h1]
  rw [idx_digs hn hi] at h2
  have h3 : ((i + nmAt p (i / n ^ q % n) * n ^ q : Nat) : Int) = ((idx n ((digs n k i).set (k - 1 - q) (nmAt p (i / n ^ q % n))) + (i / n ^ q % n) * n ^ q : Nat) : Int) := by rw [h2]
  rw [Int.natCast_add, Int.natCast_mul, Int.natCast_add, Int.natCast_mul] at h3
  rw [Int.sub_mul]
  omega
/-- out is what the partition p became: coarser; as p, where nothing was to be put together. -/
structure PuI (n : Nat) (p out : List Int) (all : Prop) : Prop where
  par : ParP n out
  keep : ∀ i j, i < n → j < n → nmAt p i = nmAt p j → nmAt out i = nmAt out j
  same : all → out = p
  back : out = p → all
theorem PuI.start {n : Nat} {p : List Int} (h : ParP n p) : PuI n p p True := ⟨h, fun _ _ _ _ h => h, fun _ => rfl, fun _ => trivial⟩
theorem PuI.congr {n : Nat} {p out : List Int} {a b : Prop} (h : PuI n p out a) (e : a ↔ b) : PuI n p out b := ⟨h.par, h.keep, fun hb => h.same (e.2 hb), fun hb => e.1 (h.back hb)⟩
theorem par_ext {n : Nat} {p q : List Int} (hp : ParP n p) (hq : ParP n q) (h : ∀ i, i < n → nmAt p i = nmAt q i) : p = q := by
  apply List.ext_getElem?
  intro i
  by_cases hi : i < n
  · rw [(hp.at hi).1, (hq.at hi).1, h i hi]
  · rw [List.getElem?_eq_none (by rw [hp.1]; omega), List.getElem?_eq_none (by rw [hq.1]; omega)]
/-- A strictly coarser one has fewer blocks: once they are put together, the partition is another one. -/
theorem fixs_keep {n : Nat} {p q : List Int} (hp : ParP n p) (hq : ParP n q) (hk : ∀ i j, i < n → j < n → nmAt p i = nmAt p j → nmAt q i = nmAt q j) {i : Nat} (hi : i < n) (h : nmAt q i = i) : nmAt p i = i := by
  have h1 := hp.at hi
  have h2 := hk (nmAt p i) i (by omega) hi h1.2.2
  have h3 := (hq.at (show nmAt p i < n by omega)).2.1
  omega
theorem PuI.next {n : Nat} {p out : List Int} {all : Prop} (hp : ParP n p) (h : PuI n p out all) {x y : Nat} (hx : x < n) (hy : y < n) : PuI n p (uniL out x y) (all ∧ nmAt p x = nmAt p y) := by
  refine ⟨uni_par h.par hx hy, fun i j hi hj e => uni_keep h.par hi hj (h.keep i j hi hj e), fun ⟨ha, hxy⟩ => ?_, fun e => ?_⟩
  · have := h.same ha
    subst this
    exact uni_same hxy
  · have h1 : nmAt p x = nmAt p y := by rw [← e]; exact uni_joins h.par hx hy
    refine ⟨h.back ?_, h1⟩
    -- out is between p and uniL out = p
    refine par_ext h.par hp fun i hi => ?_
    have h2 : ∀ i j, i < n → j < n → nmAt out i = nmAt out j → nmAt p i = nmAt p j := fun i j hi hj e2 => by
      rw [← e]; exact uni_keep h.par hi hj e2
    -- both tell the block of i by its least element
    have ho := h.par.at hi
    have hq := hp.at hi
    have k1 := h.keep (nmAt p i) i (by omega) hi hq.2.2
    have k2 := h2 (nmAt out i) i (by omega) hi ho.2.2
    have k3 := (h.par.at (show nmAt p i < n by omega)).2.1
    have k4 := (hp.at (show nmAt out i < n by omega)).2.1
    omega
theorem asc_ext : ∀ {l m : List Int}, l.Pairwise (· < ·) → m.Pairwise (· < ·) → (∀ x, x ∈ l ↔ x ∈ m) → l = m
  | [], [], _, _, _ => rfl
  | [], b :: m, _, _, h => by have := (h b).2 List.mem_cons_self; cases this
  | a :: l, [], _, _, h => by have := (h a).1 List.mem_cons_self; cases this
  | a :: l, b :: m, hl, hm, h => by
    rw [List.pairwise_cons] at hl hm
    have e : a = b := by
      rcases List.mem_cons.1 ((h a).1 List.mem_cons_self) with e | e
      · exact e
      · rcases List.mem_cons.1 ((h b).2 List.mem_cons_self) with e2 | e2
        · exact e2.symm
        · have h1 := hm.1 a e
          have h2 := hl.1 b e2
          omega
    subst e
    congr 1
    refine asc_ext hl.2 hm.2 fun x => ⟨fun hx => ?_, fun hx => ?_⟩
    · rcases List.mem_cons.1 ((h x).1 (List.mem_cons_of_mem _ hx)) with e | e
      · subst e; have := hl.1 x hx; omega
      · exact e
    · rcases List.mem_cons.1 ((h x).2 (List.mem_cons_of_mem _ hx)) with e | e
      · subst e; have := hm.1 x hx; omega
      · exact e
noncomputable def congB (n : Nat) (ops : List OpM) (p : List Int) : Bool := tt (ParP n p) && tt (CompP n ops p)
noncomputable def subB (n : Nat) (ops : List OpM) (V : List Int) : Bool := (allIn 0 ((n : Int) - 1) V && risesL V) && decide ((genL n ops V).length = V.length)
theorem in_gen {n : Nat} {ops : List OpM} {V : List Int} (h : ∀ v ∈ V, 0 ≤ v ∧ v ≤ (n : Int) - 1) : ∀ v ∈ V, v ∈ genL n ops V := fun v hv => by
  obtain ⟨y, rfl⟩ := Int.eq_ofNat_of_zero_le (h v hv).1
  have hy : y < n := by have := (h _ hv).2; omega
  refine markL_mem.2 ⟨y, hy, clB_sup n ops _ y hy ?_, rfl⟩
  refine gB_get ?_
  unfold inL
  rw [List.getElem?_map, List.getElem?_range hy]
  show some (hasI (y : Int) V) = some true
  rw [hasI_m.2 hv]
/-- As many as generated: the list itself. -/
theorem gen_eq {n : Nat} {ops : List OpM} {V : List Int} (h : ∀ v ∈ V, 0 ≤ v ∧ v ≤ (n : Int) - 1) (hr : risesL V = true) : (genL n ops V).length = V.length ↔ genL n ops V = V := by
  constructor
  · intro hl
    have hp := rises_iff.1 hr
    refine asc_ext (markL_asc _ _) hp fun x => ⟨fun hx => ?_, in_gen h x⟩
    have hnd : V.Nodup := hp.imp fun h => by omega
    by_cases hxV : x ∈ V
    · exact hxV
    · have := nodup_sub (l := x :: V) (m := genL n ops V) (List.nodup_cons.2 ⟨hxV, hnd⟩) fun y hy => by
        rcases List.mem_cons.1 hy with rfl | hy
        · exact hx
        · exact in_gen h y hy
      simp only [List.length_cons] at this
      omega
  · intro e
    rw [e]
def comp (s t : List Int) : List Int := s.map (nmI t)
theorem PermL.atI {n : Nat} {s : List Int} (h : PermL n s) {v : Int} (h0 : 0 ≤ v) (h1 : v ≤ (n : Int) - 1) : ∃ hl : v.toNat < s.length, nmI s v = s[v.toNat] ∧ s[v.toNat]? = some (nmI s v) := by
  have hl : v.toNat < s.length := by rw [h.1]; omega
  have e : s[v.toNat]? = some s[v.toNat] := List.getElem?_eq_getElem hl
  have e2 : nmI s v = s[v.toNat] := by unfold nmI; rw [List.getD_eq_getElem?_getD, e]; rfl
  exact ⟨hl, e2, by rw [e2]; exact e⟩
theorem nmI_in {n : Nat} {s : List Int} (h : PermL n s) {v : Int} (h0 : 0 ≤ v) (h1 : v ≤ (n : Int) - 1) : 0 ≤ nmI s v ∧ nmI s v ≤ (n : Int) - 1 := by
  obtain ⟨hl, e, -⟩ := h.atI h0 h1
  rw [e]
  exact h.2.1 _ (List.getElem_mem hl)
theorem nodup_at {α : Type} : ∀ {l : List α}, l.Nodup → ∀ {i j : Nat} {v : α}, l[i]? = some v → l[j]? = some v → i = j
  | [], _, i, j, v, hi, _ => by simp at hi
  | x :: l, h, 0, 0, v, _, _ => rfl
  | x :: l, h, 0, j + 1, v, hi, hj => by
    rw [List.nodup_cons] at h
    simp at hi hj
    subst hi
    exact absurd (List.mem_of_getElem? hj) h.1
  | x :: l, h, i + 1, 0, v, hi, hj => by
    rw [List.nodup_cons] at h
    simp at hi hj
    subst hj
    exact absurd (List.mem_of_getElem? hi) h.1
  | x :: l, h, i + 1, j + 1, v, hi, hj => by
    rw [List.nodup_cons] at h
    simp at hi hj
    rw [nodup_at h.2 hi hj]
theorem nmI_inj {n : Nat} {s : List Int} (h : PermL n s) {a b : Int} (a0 : 0 ≤ a) (a1 : a ≤ (n : Int) - 1) (b0 : 0 ≤ b) (b1 : b ≤ (n : Int) - 1) (e : nmI s a = nmI s b) : a = b := by
  obtain ⟨-, -, ea⟩ := h.atI a0 a1
  obtain ⟨-, -, eb⟩ := h.atI b0 b1
  rw [e] at ea
  have := nodup_at h.2.2 ea eb
  omega
theorem nodup_map {α β : Type} {f : α → β} {l : List α} (h : l.Nodup) (hf : ∀ a ∈ l, ∀ b ∈ l, f a = f b → a = b) : (l.map f).Nodup := by
  induction l with
  | nil => simp
  | cons x l ih =>
    rw [List.nodup_cons] at h
    rw [List.map_cons, List.nodup_cons]
    refine ⟨fun hm => ?_, ih h.2 fun a ha b hb => hf a (by simp [ha]) b (by simp [hb])⟩
    obtain ⟨y, hy, e⟩ := List.mem_map.1 hm
    have := hf y (by simp [hy]) x (by simp) e
    subst this
    exact h.1 hy
theorem comp_perm {n : Nat} {s t : List Int} (hs : PermL n s) (ht : PermL n t) : PermL n (comp s t) := by
  refine ⟨by unfold comp; rw [List.length_map]; exact hs.1, fun v hv => ?_, nodup_map hs.2.2 fun a ha b hb e => ?_⟩
  · obtain ⟨y, hy, rfl⟩ := List.mem_map.1 hv
    have := hs.2.1 y hy
    exact nmI_in ht this.1 this.2
  · have h1 := hs.2.1 a ha
    have h2 := hs.2.1 b hb
    exact nmI_inj ht h1.1 h1.2 h2.1 h2.2 e
theorem comp_nmI {n : Nat} {s t : List Int} (hs : PermL n s) {v : Int} (h0 : 0 ≤ v) (h1 : v ≤ (n : Int) - 1) : nmI (comp s t) v = nmI t (nmI s v) := by
  obtain ⟨hl, e, e2⟩ := hs.atI h0 h1
  unfold comp
  have : (s.map (nmI t))[v.toNat]? = some (nmI t (nmI s v)) := by rw [List.getElem?_map, e2]; rfl
  exact nmI_get this
theorem nmAt_nmI {n : Nat} {s : List Int} (hs : PermL n s) {x : Nat} (hx : x < n) : (nmAt s x : Int) = nmI s (x : Int) := by
  obtain ⟨v, h1, h2, h3⟩ := hs.at hx
  rw [h3]
  have := nmI_get h1
  unfold nmI at this ⊢
  simp only [Int.toNat_natCast]
  exact this.symm
theorem nmAt_lt {n : Nat} {s : List Int} (hs : PermL n s) {x : Nat} (hx : x < n) : nmAt s x < n := by
  obtain ⟨v, h1, h2, h3⟩ := hs.at hx
  omega
theorem comp_nmAt {n : Nat} {s t : List Int} (hs : PermL n s) (ht : PermL n t) {x : Nat} (hx : x < n) : nmAt (comp s t) x = nmAt t (nmAt s x) := by
  have h1 := nmAt_nmI (comp_perm hs ht) hx
  have h2 := nmAt_nmI ht (nmAt_lt hs hx)
  have h3 := nmAt_nmI hs hx
  rw [comp_nmI hs (by omega) (by omega), ← h3, ← h2] at h1
  omega
theorem perm_ext {n : Nat} {s t : List Int} (hs : s.length = n) (ht : t.length = n) (h : ∀ x, x < n → nmI s (x : Int) = nmI t (x : Int)) : s = t := by
  apply List.ext_getElem?
  intro i
  by_cases hi : i < n
  · have := h i hi
    unfold nmI at this
    simp only [Int.toNat_natCast, List.getD_eq_getElem?_getD] at this
    rw [List.getElem?_eq_getElem (by omega), List.getElem?_eq_getElem (by omega)] at this ⊢
    simpa using this
  · rw [List.getElem?_eq_none (by omega), List.getElem?_eq_none (by omega)]
theorem upTo_nmI {n : Nat} {v : Int} (h0 : 0 ≤ v) (h1 : v ≤ (n : Int) - 1) : nmI (upTo n) v = v := by
  have := nmI_get (upTo_get (n := n) (k := v.toNat) (by omega))
  rw [Int.toNat_of_nonneg h0] at this
  exact this
theorem comp_len (s t : List Int) : (comp s t).length = s.length := by simp [comp]
theorem comp_up {n : Nat} {s : List Int} (hs : PermL n s) : comp s (upTo n) = s := by
  refine perm_ext (n := n) (by rw [comp_len]; exact hs.1) hs.1 fun x hx => ?_
  have := nmI_in hs (v := (x : Int)) (by omega) (by omega)
  rw [comp_nmI hs (by omega) (by omega), upTo_nmI this.1 this.2]
theorem up_comp {n : Nat} {s : List Int} (hs : PermL n s) : comp (upTo n) s = s := by
  refine perm_ext (n := n) (by rw [comp_len]; exact upTo_len n) hs.1 fun x hx => ?_
  rw [comp_nmI (upTo_perm n) (by omega) (by omega), upTo_nmI (by omega) (by omega)]
theorem comp_assoc {n : Nat} {a b c : List Int} (ha : PermL n a) (hb : PermL n b) : comp (comp a b) c = comp a (comp b c) := by
  refine perm_ext (n := n) (by rw [comp_len, comp_len]; exact ha.1) (by rw [comp_len]; exact ha.1) fun x hx => ?_
  have := nmI_in ha (v := (x : Int)) (by omega) (by omega)
  rw [comp_nmI (comp_perm ha hb) (by omega) (by omega), comp_nmI ha (by omega) (by omega), comp_nmI ha (by omega) (by omega), comp_nmI hb this.1 this.2]
/-- The place of a number in a list. -/
def posN : List Int → Int → Nat
  | [], _ => 0
  | x :: l, v => if x = v then 0 else posN l v + 1
theorem posN_get : ∀ {l : List Int} {v : Int}, v ∈ l → l[posN l v]? = some v
  | [], v, h => by simp at h
  | x :: l, v, h => by
    unfold posN
    by_cases e : x = v
    · rw [if_pos e, e]; rfl
    · rw [if_neg e, List.getElem?_cons_succ]
      refine posN_get ?_
      rcases List.mem_cons.1 h with h | h
      · exact absurd h.symm e
      · exact h
def inv (n : Nat) (s : List Int) : List Int := (List.range n).map fun (y : Nat) => (posN s (y : Int) : Int)
theorem PermL.mem {n : Nat} {s : List Int} (h : PermL n s) {y : Nat} (hy : y < n) : (y : Int) ∈ s := by
  obtain ⟨x, hx, e⟩ := h.surj hy
  obtain ⟨v, h1, h2, h3⟩ := h.at hx
  rw [← e, h3]
  exact List.mem_of_getElem? h1
theorem inv_nmI {n : Nat} {s : List Int} {y : Nat} (hy : y < n) : nmI (inv n s) (y : Int) = (posN s (y : Int) : Int) := by
  have : (inv n s)[y]? = some (posN s (y : Int) : Int) := by unfold inv; rw [List.getElem?_map, List.getElem?_range hy]; rfl
  have := nmI_get this
  unfold nmI at this ⊢
  simpa using this
theorem inv_perm {n : Nat} {s : List Int} (h : PermL n s) : PermL n (inv n s) := by
  refine ⟨by simp [inv], fun v hv => ?_, nodup_map List.nodup_range fun a ha b hb e => ?_⟩
  · obtain ⟨y, hy, rfl⟩ := List.mem_map.1 hv
    have := (List.getElem?_eq_some_iff.1 (posN_get (h.mem (List.mem_range.1 hy)))).1
    have := h.1
    omega
  · have h1 := posN_get (h.mem (List.mem_range.1 ha))
    have h2 := posN_get (h.mem (List.mem_range.1 hb))
    have e' : posN s (a : Int) = posN s (b : Int) := by omega
    rw [e', h2] at h1
    injection h1 with h1
    omega
theorem comp_inv {n : Nat} {s : List Int} (h : PermL n s) : comp s (inv n s) = upTo n := by
  refine perm_ext (n := n) (by rw [comp_len]; exact h.1) (upTo_len n) fun x hx => ?_
  rw [comp_nmI h (by omega) (by omega), upTo_nmI (by omega) (by omega)]
  obtain ⟨v, h1, h2, h3⟩ := h.at hx
  have e : nmI s (x : Int) = v := by have := nmI_get h1; unfold nmI at this ⊢; simpa using this
  rw [e, inv_nmI h2]
  have := nodup_at h.2.2 (posN_get (h.mem h2)) h1
  omega
theorem toI_comp {n k : Nat} {s t : List Int} (hn : 0 < n) (hs : PermL n s) (ht : PermL n t) (i : Nat) : toI n k t (toI n k s i) = toI n k (comp s t) i := by
  unfold toI
  have h1 : ∀ d ∈ (digs n k i).map (nmAt s), d < n := fun d hd => by
    obtain ⟨y, hy, rfl⟩ := List.mem_map.1 hd
    exact nmAt_lt hs (digs_lt hn hy)
  rw [digs_idx hn k _ (by rw [List.length_map, digs_len]) h1, List.map_map]
  congr 1
  apply List.map_congr_left
  intro d hd
  rw [comp_nmAt hs ht (digs_lt hn hd)]
  rfl
theorem toI_inj {n k : Nat} {s : List Int} (hn : 0 < n) (hs : PermL n s) {i j : Nat} (hi : i < n ^ k) (hj : j < n ^ k) (e : toI n k s i = toI n k s j) : i = j := by
  have h1 := toI_comp (k := k) hn hs (inv_perm hs) i
  have h2 := toI_comp (k := k) hn hs (inv_perm hs) j
  rw [comp_inv hs, toI_up hn hi] at h1
  rw [comp_inv hs, toI_up hn hj] at h2
  rw [← h1, ← h2, e]
theorem renTo_get {n k : Nat} {s t T : List Int} (hn : 0 < n) (hs : PermL n s) (hT : T.length = n ^ k) : ∀ m, m ≤ n ^ k → ∀ i, i < m → (renTo n k s t T m)[toI n k s i]? = some (nmI s (t.getD i 0))
  | 0, _, i, hi => absurd hi (by omega)
  | m + 1, hm, i, hi => by
    rw [renTo, List.getElem?_set]
    by_cases h : toI n k s m = toI n k s i
    · obtain rfl : m = i := toI_inj hn hs (by omega) (by omega) h
      have := toI_lt (k := k) hn hs m
      rw [if_pos rfl, if_pos (by rw [renTo_len, hT]; exact this)]
    · rw [if_neg h]
      refine renTo_get hn hs hT m (by omega) i ?_
      rcases Nat.lt_or_ge i m with h2 | h2
      · exact h2
      · obtain rfl : i = m := by omega
        exact absurd rfl h
theorem renOp_get {n : Nat} {s : List Int} {x : OpM} (hn : 0 < n) (hs : PermL n s) (h : OpP n x) {i : Nat} (hi : i < n ^ x.1.toNat) : (renOp n s x).2[toI n x.1.toNat s i]? = some (nmI s (x.2.getD i 0)) :=
  renTo_get hn hs h.2.2.1 _ (Nat.le_of_eq h.2.2.1) i (by rw [h.2.2.1]; exact hi)
theorem renOp_comp {n : Nat} {s t : List Int} {x : OpM} (hn : 0 < n) (hs : PermL n s) (ht : PermL n t) (h : OpP n x) : renOp n t (renOp n s x) = renOp n (comp s t) x := by
  have h1 := renOp_small hs h
  have h2 := renOp_small ht h1
  have h3 := renOp_small (comp_perm hs ht) h
  refine Prod.ext rfl ?_
  apply List.ext_getElem?
  intro j
  by_cases hj : j < n ^ x.1.toNat
  · obtain ⟨i, hi, rfl⟩ := toI_surj hn (comp_perm hs ht) hj
    rw [renOp_get hn (comp_perm hs ht) h hi, ← toI_comp hn hs ht i]
    have e := renOp_get (x := renOp n s x) hn ht h1 (i := toI n x.1.toNat s i) (toI_lt hn hs i)
    have e1 : (renOp n s x).1 = x.1 := rfl
    rw [e1] at e
    rw [e, List.getD_eq_getElem?_getD, renOp_get hn hs h hi]
    have hx : 0 ≤ x.2.getD i 0 ∧ x.2.getD i 0 ≤ (n : Int) - 1 := by
      rw [List.getD_eq_getElem?_getD, List.getElem?_eq_getElem (by rw [h.2.2.1]; exact hi)]
      exact h.2.2.2 _ (List.getElem_mem _)
    rw [comp_nmI hs hx.1 hx.2]
    rfl
  · have e2 : (renOp n t (renOp n s x)).2.length = n ^ x.1.toNat := h2.2.2.1
    have e3 : (renOp n (comp s t) x).2.length = n ^ x.1.toNat := h3.2.2.1
    rw [List.getElem?_eq_none (by omega), List.getElem?_eq_none (by omega)]
theorem ren_comp {x : AlgebraM} {s t : List Int} (h : SmallP x) (hs : PermL x.1.toNat s) (ht : PermL x.1.toNat t) : ren (ren x s) t = ren x (comp s t) := by
  obtain ⟨a, ops⟩ := x
  have hn : 0 < a.toNat := by have h0 : 1 ≤ a := h.1; omega
  show (a, (ops.map (renOp a.toNat s)).map (renOp a.toNat t)) = (a, ops.map (renOp a.toNat (comp s t)))
  congr 1
  rw [List.map_map]
  apply List.map_congr_left
  intro o ho
  exact renOp_comp hn hs ht (h.2.2.2 o ho)
theorem ren_inv {x : AlgebraM} {s : List Int} (h : SmallP x) (hs : PermL x.1.toNat s) : ren (ren x s) (inv x.1.toNat s) = x := by
  rw [ren_comp h hs (inv_perm hs), comp_inv hs, ren_up h]
theorem ords_all {n : Nat} : ∀ (r : Nat) {s q : List Int}, q.length = r → (s ++ q).Nodup → (∀ v ∈ q, 0 ≤ v ∧ v ≤ (n : Int) - 1) → s ++ q ∈ ords n r s
  | 0, s, q, hq, _, _ => by
    obtain rfl : q = [] := List.eq_nil_of_length_eq_zero hq
    simp [ords]
  | r + 1, s, q, hq, hn, hb => by
    rcases q with _ | ⟨v, q⟩
    · simp at hq
    · have hv := hb v (by simp)
      rw [ords, List.mem_flatMap]
      refine ⟨v.toNat, List.mem_range.2 (by omega), ?_⟩
      rw [Int.toNat_of_nonneg hv.1]
      have hno : hasI v s = false := by
        rcases e : hasI v s with _ | _
        · rfl
        · rw [List.nodup_append] at hn
          exact absurd rfl (hn.2.2 v (hasI_m.1 e) v (by simp))
      rw [hno, if_neg (by simp)]
      have := ords_all (n := n) r (s := s ++ [v]) (q := q) (by simpa using hq) (by simpa using hn) fun u hu => hb u (by simp [hu])
      simpa using this
theorem ords_mem {n : Nat} {p : List Int} : p ∈ ords n n [] ↔ PermL n p :=
  ⟨fun h => ords_perm n (by simp) (fun v hv => by cases hv) List.nodup_nil p h, fun h => ords_all n (s := []) h.1 (by simpa using h.2.2) h.2.1⟩
theorem less_irr : ∀ l : List Int, lessL l l = false
  | [] => rfl
  | x :: l => by rw [lessL]; simp [less_irr l]
theorem less_trans : ∀ {a b c : List Int}, lessL a b = true → lessL b c = true → lessL a c = true
  | [], _, _, h, _ => by simp [lessL] at h
  | _ :: _, [], _, h, _ => by simp [lessL] at h
  | _ :: _, _ :: _, [], _, h => by simp [lessL] at h
  | x :: a, y :: b, z :: c, h1, h2 => by
    rw [lessL] at h1 h2 ⊢
    by_cases e1 : x = y
    · subst e1
      by_cases e2 : x = z
      · subst e2
        simp at h1 h2 ⊢
        exact less_trans h1 h2
      · simp [e2] at h1 h2 ⊢
        exact h2
    · simp [e1] at h1
      by_cases e2 : y = z
      · subst e2
        simp [e1]
        exact h1
      · simp [e2] at h2
        have e3 : ¬ x = z := by omega
        simp [e3]
        omega
theorem less_total : ∀ {a b : List Int}, a.length = b.length → lessL a b = false → lessL b a = false → a = b
  | [], [], _, _, _ => rfl
  | [], _ :: _, h, _, _ => by simp at h
  | _ :: _, [], h, _, _ => by simp at h
  | x :: a, y :: b, h, h1, h2 => by
    rw [lessL] at h1 h2
    by_cases e : x = y
    · subst e
      simp at h1 h2
      rw [less_total (by simpa using h) h1 h2]
    · have e' : ¬ y = x := fun h => e h.symm
      simp [e] at h1
      simp [e'] at h2
      omega
theorem less_le {a b c : List Int} (hl : a.length = b.length) (h1 : lessL a b = false) (h2 : lessL a c = true) : lessL b c = true := by
  rcases e : lessL b a with _ | _
  · rw [← less_total hl h1 e]
    exact h2
  · exact less_trans e h2
theorem code_ren_same {x y : AlgebraM} {s t : List Int} (hx : SmallP x) (hs : PermL x.1.toNat s) (ht : PermL x.1.toNat t) (hy : y = x) : (codeL (ren x s).2).length = (codeL (ren y t).2).length := by
  subst hy
  exact code_len_eq (n := y.1.toNat) (ren_small hs hx).2.2.2 (ren_small ht hx).2.2.2 (by rw [ren_type, ren_type])
theorem best_min {x : AlgebraM} (hx : SmallP x) {l : List (List Int)} (hl : ∀ p ∈ l, PermL x.1.toNat p) {b : List Int} (h : bestOf x l = some b) : ∀ p ∈ l, lessL (codeL (ren x p).2) (codeL (ren x b).2) = false := by
  have key : ∀ (l : List (List Int)) (a b : List Int), PermL x.1.toNat a → (∀ p ∈ l, PermL x.1.toNat p) → l.foldl (better x) (some a) = some b → PermL x.1.toNat b ∧ lessL (codeL (ren x a).2) (codeL (ren x b).2) = false ∧ ∀ p ∈ l, lessL (codeL (ren x p).2) (codeL (ren x b).2) = false := by
    intro l
    induction l with
    | nil =>
      intro a b ha _ h
      injection h with h
      subst h
      exact ⟨ha, less_irr _, fun p hp => by cases hp⟩
    | cons s l ih =>
      intro a b ha hl h
      rw [List.foldl_cons] at h
      have hs := hl s (by simp)
      have hl' : ∀ p ∈ l, PermL x.1.toNat p := fun p hp => hl p (by simp [hp])
      rcases e : lessL (codeL (ren x s).2) (codeL (ren x a).2) with _ | _
      · have e' : better x (some a) s = some a := by unfold better; simp [e]
        rw [e'] at h
        obtain ⟨hb, h1, h2⟩ := ih a b ha hl' h
        refine ⟨hb, h1, fun p hp => ?_⟩
        rcases List.mem_cons.1 hp with rfl | hp
        · rcases e2 : lessL (codeL (ren x p).2) (codeL (ren x b).2) with _ | _
          · rfl
          · have := less_le (code_ren_same hx hs ha rfl) e e2
            rw [h1] at this
            cases this
        · exact h2 p hp
      · have e' : better x (some a) s = some s := by unfold better; simp [e]
        rw [e'] at h
        obtain ⟨hb, h1, h2⟩ := ih s b hs hl' h
        refine ⟨hb, ?_, fun p hp => ?_⟩
        · rcases e2 : lessL (codeL (ren x a).2) (codeL (ren x b).2) with _ | _
          · rfl
          · have := less_trans e e2
            rw [h1] at this
            cases this
        · rcases List.mem_cons.1 hp with rfl | hp
          · exact h1
          · exact h2 p hp
  intro p hp
  rcases l with _ | ⟨s, l⟩
  · cases hp
  · obtain ⟨-, h1, h2⟩ := key l s b (hl s (by simp)) (fun q hq => hl q (by simp [hq])) h
    rcases List.mem_cons.1 hp with rfl | hp
    · exact h1
    · exact h2 p hp
theorem canA_min {x : AlgebraM} (hx : SmallP x) {p : List Int} (hp : PermL x.1.toNat p) : lessL (codeL (ren x p).2) (codeL (canA x).2) = false :=
  best_min hx all_perm (canN_ok (x := x)).1 p (ords_mem.2 hp)
theorem ren_eq {x : AlgebraM} (hx : SmallP x) {s t : List Int} (hs : PermL x.1.toNat s) (ht : PermL x.1.toNat t) (h : codeL (ren x s).2 = codeL (ren x t).2) : ren x s = ren x t :=
  Prod.ext rfl (code_eq (n := x.1.toNat) (ren_small hs hx).2.2.2 (ren_small ht hx).2.2.2 (by rw [ren_type, ren_type]) h)
theorem canA_ren {x : AlgebraM} (hx : SmallP x) {s : List Int} (hs : PermL x.1.toNat s) : canA (ren x s) = canA x := by
  have hy := ren_small hs hx
  have hc : PermL x.1.toNat (canN x) := (canN_ok (x := x)).2
  have hd : PermL x.1.toNat (canN (ren x s)) := (canN_ok (x := ren x s)).2
  have e1 : canA (ren x s) = ren x (comp s (canN (ren x s))) := ren_comp hx hs hd
  have e2 : canA x = ren (ren x s) (comp (inv x.1.toNat s) (canN x)) := by
    rw [ren_comp hx hs (comp_perm (inv_perm hs) hc), ← comp_assoc hs (inv_perm hs), comp_inv hs, up_comp hc]
    rfl
  have h1 := canA_min hx (comp_perm hs hd)
  rw [← e1] at h1
  have h2 := canA_min (x := ren x s) hy (p := comp (inv x.1.toNat s) (canN x)) (comp_perm (inv_perm hs) hc)
  rw [← e2] at h2
  rw [e1]
  refine ren_eq hx (comp_perm hs hd) hc ?_
  rw [← e1]
  refine less_total ?_ h1 h2
  rw [e1]
  exact code_ren_same hx (comp_perm hs hd) hc rfl
/-- The kernel of a map: each element's first mate. -/
def kerL (q : List Int) : List Int := q.map fun v => (posN q v : Int)
theorem kerL_len (q : List Int) : (kerL q).length = q.length := List.length_map _
/-- No mate stands ahead of the first one. -/
theorem posN_least : ∀ {q : List Int} {v : Int} {y : Nat}, q[y]? = some v → posN q v ≤ y
  | [], v, y, h => by simp at h
  | x :: l, v, 0, h => by
    simp at h
    rw [posN, if_pos h]; exact Nat.le_refl _
  | x :: l, v, y + 1, h => by
    rw [posN]
    split
    · omega
    · rw [List.getElem?_cons_succ] at h
      have := posN_least h
      omega
theorem posN_first {q : List Int} {v : Int} {y : Nat} (h : q[y]? = some v) (hb : ∀ z, z < y → q[z]? ≠ some v) : posN q v = y := by
  have h1 := posN_least h
  have h2 := posN_get (List.mem_of_getElem? h)
  rcases Nat.lt_or_ge (posN q v) y with hlt | hge
  · exact absurd h2 (hb _ hlt)
  · omega
/-- Inside the numbers below n. -/
def InL (n : Nat) (V : List Int) : Prop := ∀ v ∈ V, 0 ≤ v ∧ v ≤ (n : Int) - 1
theorem inv_at {n : Nat} {s : List Int} (h : PermL n s) {x : Nat} (hx : x < n) : nmI (inv n s) (nmI s (x : Int)) = (x : Int) := by
  have hi := nmI_in h (v := (x : Int)) (by omega) (by omega)
  have : nmI (comp s (inv n s)) (x : Int) = nmI (upTo n) (x : Int) := by rw [comp_inv h]
  rwa [comp_nmI h (by omega) (by omega), upTo_nmI (by omega) (by omega)] at this
def rl (p : List Int) (x y : Nat) : Prop := nmAt p x = nmAt p y
def Cpt (n : Nat) (ops : List OpM) (R : Nat → Nat → Prop) : Prop := ∀ o ∈ ops, ∀ l : List Nat, l.length = o.1.toNat → (∀ d ∈ l, d < n) → ∀ j, j < o.1.toNat → ∀ x y, x < n → y < n → R x y → R (nmAt o.2 (idx n (l.set j x))) (nmAt o.2 (idx n (l.set j y)))
/-- An equivalence on the numbers below n. -/
structure EqvN (n : Nat) (E : Nat → Nat → Prop) : Prop where
  rfl' : ∀ x, x < n → E x x
  sym : ∀ x y, x < n → y < n → E x y → E y x
  trs : ∀ x y z, x < n → y < n → z < n → E x y → E y z → E x z
theorem uni_least {n : Nat} {p : List Int} (P : ParP n p) {E : Nat → Nat → Prop} (hE : EqvN n E) (hp : ∀ x y, x < n → y < n → rl p x y → E x y) {a b : Nat} (ha : a < n) (hb : b < n) (hab : E a b) : ∀ x y, x < n → y < n → rl (uniL p a b) x y → E x y := fun x y hx hy h => by
  unfold rl at h
  rw [uni_at P hx, uni_at P hy] at h
  have : nmAt p x = nmAt p y ∨ (nmAt p x = nmAt p a ∧ nmAt p y = nmAt p b) ∨ (nmAt p x = nmAt p b ∧ nmAt p y = nmAt p a) := by
    have hm : (max (nmAt p a) (nmAt p b) = nmAt p a ∧ min (nmAt p a) (nmAt p b) = nmAt p b) ∨ (max (nmAt p a) (nmAt p b) = nmAt p b ∧ min (nmAt p a) (nmAt p b) = nmAt p a) := by omega
    rcases hm with ⟨e1, e2⟩ | ⟨e1, e2⟩
    all_goals
      rw [e1, e2] at h
      split at h <;> split at h <;> omega
  rcases this with h1 | ⟨h1, h2⟩ | ⟨h1, h2⟩
  · exact hp x y hx hy h1
  · exact hE.trs x a y hx ha hy (hp x a hx ha h1) (hE.trs a b y ha hb hy hab (hE.sym y b hy hb (hp y b hy hb h2)))
  · exact hE.trs x b y hx hb hy (hp x b hx hb h1) (hE.trs b a y hb ha hy (hE.sym a b ha hb hab) (hE.sym y a hy ha (hp y a hy ha h2)))
/-- P made coarser, as little as need be. -/
def UL (n : Nat) (ops : List OpM) (p0 p : List Int) : Prop := (∀ x y, x < n → y < n → rl p0 x y → rl p x y) ∧ ∀ E, EqvN n E → Cpt n ops E → (∀ x y, x < n → y < n → rl p0 x y → E x y) → ∀ x y, x < n → y < n → rl p x y → E x y
theorem UL.refl (n : Nat) (ops : List OpM) (p : List Int) : UL n ops p p := ⟨fun _ _ _ _ h => h, fun _ _ _ h => h⟩
theorem set_keep1 {α : Type} {l : List α} {d : Nat} {z : α} (h : l[d]? = some z) : l.set d z = l := by
  apply List.ext_getElem?
  intro i
  rw [List.getElem?_set]
  by_cases e : d = i
  · subst e
    rw [if_pos rfl, if_pos (List.getElem?_eq_some_iff.1 h).1, h]
  · rw [if_neg e]
theorem UL.join {n : Nat} {ops : List OpM} {p0 p r : List Int} (h : UL n ops p0 p) (P : ParP n p) (R : ParP n r) (hrp : ∀ x y, x < n → y < n → rl r x y → rl p x y) (hn : 0 < n) {o : OpM} (ho : o ∈ ops) (hp : OpP n o) {d q x y : Nat} (hd : d < o.1.toNat) (hq : q < o.2.length) (hx : nmAt o.2 q = x) (hy : nmAt o.2 (repI n o.1.toNat r q d) = y) (hxn : x < n) (hyn : y < n) : UL n ops p0 (uniL p x y) := by
  refine ⟨fun a b ha hb hr => uni_keep P ha hb (h.1 a b ha hb hr), fun E hE hC h0 => uni_least P hE (h.2 E hE hC h0) hxn hyn ?_⟩
  have hl : (digs n o.1.toNat q).length = o.1.toNat := digs_len _ _ _
  obtain ⟨z, hz⟩ : ∃ z, (digs n o.1.toNat q)[d]? = some z := ⟨_, List.getElem?_eq_getElem (by omega)⟩
  have hzn : z < n := digs_lt hn (List.mem_of_getElem? hz)
  have h1 := R.at hzn
  have h2 := hC o ho (digs n o.1.toNat q) hl (fun e he => digs_lt hn he) d hd z (nmAt r z) hzn (by omega) (h.2 E hE hC h0 z (nmAt r z) hzn (by omega) (hrp z (nmAt r z) hzn (by omega) h1.2.2.symm))
  rw [set_keep1 hz, idx_digs hn (by rw [← hp.2.2.1]; exact hq), hx] at h2
  unfold repI at hy
  rw [List.getD_eq_getElem?_getD, hz] at hy
  have hy' : nmAt o.2 (idx n ((digs n o.1.toNat q).set d (nmAt r z))) = y := hy
  rw [hy'] at h2
  exact h2
def joinTo (p q : List Int) : Nat → List Int
  | 0 => p
  | k + 1 => uniL (joinTo p q k) k (nmAt q k)
def joinP (p q : List Int) : List Int := joinTo p q q.length
theorem joinTo_par {n : Nat} {p q : List Int} (P : ParP n p) (Q : ParP n q) : ∀ k, k ≤ n → ParP n (joinTo p q k)
  | 0, _ => P
  | k + 1, h => uni_par (joinTo_par P Q k (by omega)) (by omega) (by have := (Q.at (i := k) (by omega)).2.1; omega)
theorem joinP_n {n : Nat} {p q : List Int} (Q : ParP n q) : joinP p q = joinTo p q n := by unfold joinP; rw [Q.1]
theorem joinP_par {n : Nat} {p q : List Int} (P : ParP n p) (Q : ParP n q) : ParP n (joinP p q) := by rw [joinP_n Q]; exact joinTo_par P Q n (Nat.le_refl _)
theorem par_bd {n : Nat} {p : List Int} (P : ParP n p) (hn : n ≤ 1000) : ∀ v ∈ p, -9223372036854775808 ≤ v ∧ v ≤ 9223372036854775807 := fun v hv => by
  obtain ⟨i, hi⟩ := List.getElem?_of_mem hv
  have hl : i < n := by rw [← P.1]; exact (List.getElem?_eq_some_iff.1 hi).1
  have h := P.at hl
  rw [hi] at h
  injection h.1 with h1
  have := h.2.1
  omega
theorem at_in {n : Nat} {l : List Int} (h : InL n l) (hn : 0 < n) (i : Nat) : nmAt l i < n ∧ l.getD i 0 = (nmAt l i : Int) := by
  unfold nmAt
  rw [List.getD_eq_getElem?_getD]
  rcases e : l[i]? with _ | v
  · exact ⟨hn, rfl⟩
  · have := h v (List.mem_of_getElem? e)
    exact ⟨by show v.toNat < n; omega, by show v = (v.toNat : Int); omega⟩
theorem nmAt_inj {n : Nat} {s : List Int} (hs : PermL n s) {a b : Nat} (ha : a < n) (hb : b < n) (e : nmAt s a = nmAt s b) : a = b := by
  have h1 := nmAt_nmI hs ha
  have h2 := nmAt_nmI hs hb
  have := nmI_inj hs (a := a) (b := b) (by omega) (by omega) (by omega) (by omega) (by rw [← h1, ← h2, e])
  omega
theorem inv_s {n : Nat} {s : List Int} (hs : PermL n s) {x : Nat} (hx : x < n) : nmAt (inv n s) (nmAt s x) = x := by
  have h := inv_at hs hx
  rw [← nmAt_nmI hs hx, ← nmAt_nmI (inv_perm hs) (nmAt_lt hs hx)] at h
  omega
theorem ap_ren {n : Nat} {s : List Int} {o : OpM} (hn : 0 < n) (hs : PermL n s) (ho : OpP n o) {l : List Nat} (hl : l.length = o.1.toNat) (hd : ∀ d ∈ l, d < n) : nmAt (renOp n s o).2 (idx n (l.map (nmAt s))) = nmAt s (nmAt o.2 (idx n l)) := by
  have hi := idx_lt _ l hl hd
  have h := renOp_get hn hs ho hi
  unfold toI at h
  rw [digs_idx hn _ l hl hd] at h
  have ha := at_in ho.2.2.2 hn (idx n l)
  rw [nmAt_get h, ha.2, ← nmAt_nmI hs ha.1]
  simp
theorem ren_at {n : Nat} {s : List Int} {ops : List OpM} (hn : 0 < n) (hs : PermL n s) (hops : ∀ o ∈ ops, OpP n o) {o' : OpM} (h : o' ∈ ops.map (renOp n s)) {j : Nat} (hj : j < o'.2.length) :
    ∃ o ∈ ops, ∃ i, i < o.2.length ∧ o'.1 = o.1 ∧ o' = renOp n s o ∧ digs n o.1.toNat j = (digs n o.1.toNat i).map (nmAt s) ∧ nmAt o'.2 j = nmAt s (nmAt o.2 i) := by
  obtain ⟨o, ho, rfl⟩ := List.mem_map.1 h
  have hp := hops o ho
  have hl : (renOp n s o).2.length = n ^ o.1.toNat := (renOp_small hs hp).2.2.1
  rw [hl] at hj
  obtain ⟨i, hi, rfl⟩ := toI_surj (k := o.1.toNat) hn hs hj
  refine ⟨o, ho, i, by rw [hp.2.2.1]; exact hi, rfl, rfl, ?_, ?_⟩
  · unfold toI
    rw [digs_idx hn _ _ (by rw [List.length_map, digs_len])]
    intro d hd
    obtain ⟨x, hx, rfl⟩ := List.mem_map.1 hd
    exact nmAt_lt hs (digs_lt hn hx)
  · have := ap_ren hn hs hp (l := digs n o.1.toNat i) (digs_len _ _ _) (fun d hd => digs_lt hn hd)
    rw [idx_digs hn hi] at this
    exact this
def bls (L : List Bool) : List Value := L.map fun b => .bool b
theorem bls_get {L : List Bool} {y : Nat} (h : y < L.length) : (bls L)[y]? = some (.bool (gB L y)) := by unfold bls; rw [List.getElem?_map, gB_at h]; rfl
theorem bls_set (L : List Bool) (y : Nat) (b : Bool) : (bls L).set y (.bool b) = bls (L.set y b) := by simp [bls, List.map_set]
theorem bls_rep (n : Nat) : bls (List.replicate n false) = List.replicate n (.bool false) := by simp [bls]
theorem info_bl : (Tryz.prog.info? 4).map (fun i => (i.zero, i.size, i.bytes)) = some (some (.bool false), 1, 1) := by kernel_rfl
theorem make_bl (w : World) {ops : Array Oper} {rest : List Oper} {o : Oper} {a : Act} {Q : Exit → Act → World → Prop} (hg : o.guard = none) (l c : Operand) (hop : o.op = Op.makeSlice 37 l c)
    (n : Nat) (hl : a.eval l = .int .i64 n) (hc : a.eval c = .int .i64 n) (b : n ≤ 17592186044416)
    (hK : ∀ w', w'.ownsRow w.heap.size 4 1 (.slice (some ⟨w.heap.size, 0, none⟩) n n) n (bls (List.replicate n false)) → w.grownBy w' none → wpList Tryz.prog ops Q rest (a.put o.dst (.slice (some ⟨w.heap.size, 0, none⟩) n n)) w') :
    wpList Tryz.prog ops Q (o :: rest) a w := by
  obtain ⟨i0, hi, hz0, hz1, hz2⟩ := info_parts info_bl
  refine wpList_make_full w hg l c 37 hop w.heap.size 4 i0 (.bool false) 1 Tryz.underlying37 hi hz0 hz1 .i64 .i64 n n n hl hc rfl rfl (by rw [hz2]; omega) (by unfold maxLen; omega) (Nat.le_refl _) ?_
  intro w' h1 h2
  refine hK w' ?_ h2
  have e : (madeCells (Value.bool false).cells (n * 1)).toList = List.replicate n (.bool false) := by rw [Nat.mul_one]; exact toList_madeCells_one (.bool false) n
  rw [bls_rep, ← e]
  exact h1
/-- The marked numbers as a list of the call's own. -/
def OwI (w : World) (L : List Int) (e : Ending) (w' : World) : Prop := ∃ A c, e = .returned (.slice A L.length c) ∧ w'.ownsRow w.heap.size 3 1 (.slice A L.length c) L.length (ints L) ∧ Below w.heap.size w w'
theorem markL_bd (n : Nat) (M : Nat → Bool) (hn : n ≤ 1048576) : ∀ v ∈ markL n M, -9223372036854775808 ≤ v ∧ v ≤ 9223372036854775807 := fun v hv => by
  have := markL_in v hv
  omega
theorem marked_any (A : Option Addr) (n c : Nat) (L : List Bool) (w : World) (h : RdL RB w A n L) (hn : n ≤ 1000) :
    Calls Tryz.prog 83 #[.slice A n c] w (OwI w (markL n (gB L))) := by
  have hT := below_box w (.cells #[] 3)
  have hlen := Lib.hid h.len
  go_enter Tryz.func83, Tryz.ntmps83
  go_wp2_with fail
  go_loopw [3, 4, 5, 9] (fun s _ _ i wr => ∃ (k m : Nat) (A1 : Option Addr) (c1 : Nat), k ≤ n ∧ i = .int .i64 k ∧ s = .slice A1 m c1 ∧ m = (markL k (gB L)).length ∧ wr.ownsRow w.heap.size 3 1 (.slice A1 m c1) m (ints (markL k (gB L))) ∧ Below w.heap.size w wr) (fun _ _ _ i _ => n - (intOf i).toNat)
  case atStart => exact ⟨0, 0, some ⟨w.heap.size, 0, none⟩, 0, Nat.zero_le _, rfl, rfl, rfl, World.ownsRow_lit w #[] 0 (Nat.le_refl _) (Nat.zero_le _) rfl, hT⟩
  case round =>
    obtain ⟨k, m, A1, c1, hk, rfl, rfl, hm, hown, hTr⟩ := hrel
    have hmk : m ≤ k := by rw [hm]; exact markL_le k (gB L)
    by_cases hlt : k < n
    · have hk0 : (0 : Int) ≤ (k : Int) := by omega
      have hk1 : (k : Int) < (n : Int) := by omega
      obtain ⟨b, o, u, v, rfl, hc, rfl, -, hx⟩ := (h.next stab_RB hTr).at hlt
      have HG := Lib.hid (gB_get hx)
      have HS := Lib.hid (markL_succ k (gB L))
      rw [HG.out] at HS
      have HMM := Lib.hid hm
      clear hx hm
      rcases v with _ | _
      · go_wp2_with fail
        go_roundw
        case rel => exact ⟨k + 1, m, A1, c1, by omega, by go_num, rfl, by rw [HS.out]; simpa using HMM.out, by rw [HS.out]; simpa using hown, hTr⟩
        case measure => simp [intOf]; omega
      · have hsz := hTr.size
        go_wp2_with (at_builtin; refine app1 wr rfl _ _ 27 3 rfl (.int .i64 0) 8 Tryz.underlying27 info_int rfl (by decide) w.heap.size m c1 A1 (ints (markL k (gB L))) rfl hown (.int .i64 (k : Int)) rfl rfl (by omega) (by omega) ?_; intro A2 c2 w2 hown2 hg2 hb2)
        go_roundw
        case rel => exact ⟨k + 1, m + 1, A2, c2, by omega, by go_num, rfl, by rw [HS.out]; simpa using HMM.out, by rw [HS.out]; simpa [ints] using hown2, hTr.trans hb2⟩
        case measure => simp [intOf]; omega
    · have hk1 : ¬ (k : Int) < (n : Int) := by omega
      obtain rfl : k = n := by omega
      have HMM := Lib.hid hm
      clear hm
      go_wp2_with fail
      go_ret
      exact ⟨A1, c1, by rw [HMM.out]; rfl, by rw [← HMM.out]; exact hown, hTr⟩
theorem inL_get {n y : Nat} {S : List Int} (h : y < n) : gB (inL n S) y = hasI (y : Int) S := by
  refine gB_get ?_
  unfold inL
  rw [List.getElem?_map, List.getElem?_range h]
  rfl
theorem inL_set {n k x : Nat} {S : List Int} (hx : S[k]? = some (x : Int)) (hxn : x < n) : (inL n (S.take k)).set x true = inL n (S.take (k + 1)) := by
  refine gB_ext (n := n) (by rw [List.length_set, inL_len]) (inL_len _ _) fun y hy => ?_
  rw [gB_set (by rw [inL_len]; exact hxn), inL_get hy, inL_get hy, List.take_add_one, hx]
  rw [Bool.eq_iff_iff]
  by_cases e : y = x
  · subst e; simp [hasI_m]
  · rw [if_neg e, hasI_m, hasI_m, List.mem_append]
    constructor
    · exact .inl
    · rintro (h | h)
      · exact h
      · simp at h; omega
def hM (V : List Int) (y : Nat) : Bool := hasI (y : Int) V
theorem hM_iff {V : List Int} {y : Nat} : hM V y = true ↔ (y : Int) ∈ V := hasI_m
theorem hM_mark {n : Nat} {M : Nat → Bool} {y : Nat} : hM (markL n M) y = true ↔ y < n ∧ M y = true := by
  rw [hM_iff, markL_mem]
  exact ⟨fun ⟨z, h1, h2, e⟩ => by obtain rfl : y = z := by omega
                                  exact ⟨h1, h2⟩, fun h => ⟨y, h.1, h.2, rfl⟩⟩
theorem inM {n : Nat} {V : List Int} : LeM n (gB (inL n V)) (hM V) := fun y hy h => by rw [inL_get hy] at h; exact h
theorem asc_of {n : Nat} {V W : List Int} (hV : InL n V) (hW : InL n W) (aV : V.Pairwise (· < ·)) (aW : W.Pairwise (· < ·)) (h : ∀ y : Nat, y < n → (hM V y = true ↔ hM W y = true)) : V = W := by
  refine asc_ext aV aW fun v => ?_
  by_cases hv : 0 ≤ v ∧ v ≤ (n : Int) - 1
  · have := h v.toNat (by omega)
    rw [hM_iff, hM_iff, Int.toNat_of_nonneg hv.1] at this
    exact this
  · exact ⟨fun h1 => absurd (hV v h1) hv, fun h1 => absurd (hW v h1) hv⟩
theorem sub_iff {n : Nat} {ops : List OpM} {V : List Int} (hn : 0 < n) (hops : ∀ o ∈ ops, OpP n o) : subB n ops V = true ↔ InL n V ∧ V.Pairwise (· < ·) ∧ ClosedM n ops (hM V) := by
  unfold subB
  rw [Bool.and_eq_true, Bool.and_eq_true, decide_eq_true_iff, allIn_m, rises_iff]
  constructor
  · rintro ⟨⟨h1, h2⟩, h3⟩
    refine ⟨h1, h2, fun o ho i hi hd => ?_⟩
    have e := (gen_eq h1 (rises_iff.2 h2)).1 h3
    have key : ∀ y, hM V y = true ↔ y < n ∧ clB n ops (gB (inL n V)) y = true := fun y => by
      conv => lhs; rw [← e]
      exact hM_mark
    exact (key _).2 ⟨(at_in (hops o ho).2.2.2 hn i).1, clB_closed n ops _ o ho i hi fun d hd' => ((key d).1 (hd d hd')).2⟩
  · rintro ⟨h1, h2, h3⟩
    refine ⟨⟨h1, h2⟩, (gen_eq h1 (rises_iff.2 h2)).2 (asc_of markL_in h1 (markL_asc _ _) h2 fun y hy => ⟨fun h => ?_, fun h => hM_iff.2 (in_gen h1 _ (hM_iff.1 h))⟩)⟩
    exact clB_least h3 inM y hy (hM_mark.1 h).2
/-- The list of a renamed set. -/
theorem rn_mem {n : Nat} {s V : List Int} (hs : PermL n s) (hV : InL n V) {x : Nat} (hx : x < n) : hM (markL s.length fun y => hasI (y : Int) (comp V s)) (nmAt s x) = true ↔ hM V x = true := by
  rw [hM_mark, hs.1, hasI_m, hM_iff]
  constructor
  · rintro ⟨-, h⟩
    obtain ⟨v, hv, e⟩ := List.mem_map.1 h
    have h1 := hV v hv
    rw [nmAt_nmI hs hx] at e
    have := nmI_inj hs h1.1 h1.2 (by omega) (by omega) e
    rw [← this]
    exact hv
  · intro h
    exact ⟨nmAt_lt hs hx, List.mem_map.2 ⟨_, h, (nmAt_nmI hs hx).symm⟩⟩
theorem rn_inj {n : Nat} {s V W : List Int} (hs : PermL n s) (hV : InL n V) (hW : InL n W) (aV : V.Pairwise (· < ·)) (aW : W.Pairwise (· < ·)) (h : (markL s.length fun y => hasI (y : Int) (comp V s)) = markL s.length fun y => hasI (y : Int) (comp W s)) : V = W :=
  asc_of hV hW aV aW fun y hy => by rw [← rn_mem hs hV hy, ← rn_mem hs hW hy, h]
theorem sub_ren {n : Nat} {s : List Int} {ops : List OpM} {V : List Int} (hn : 0 < n) (hs : PermL n s) (hops : ∀ o ∈ ops, OpP n o) (h : subB n ops V = true) : subB n (ops.map (renOp n s)) (markL s.length fun y => hasI (y : Int) (comp V s)) = true := by
  obtain ⟨h1, h2, h3⟩ := (sub_iff hn hops).1 h
  have hops' : ∀ o ∈ ops.map (renOp n s), OpP n o := fun o ho => by
    obtain ⟨o1, ho1, rfl⟩ := List.mem_map.1 ho
    exact renOp_small hs (hops o1 ho1)
  refine (sub_iff hn hops').2 ⟨by rw [hs.1]; exact markL_in, markL_asc _ _, fun o' ho' j hj hd => ?_⟩
  obtain ⟨o, ho, i, hi, ek, -, ed, ev⟩ := ren_at hn hs hops ho' hj
  rw [ev, rn_mem hs h1 (at_in (hops o ho).2.2.2 hn i).1]
  refine h3 o ho i hi fun d hd' => (rn_mem hs h1 (digs_lt hn hd')).1 (hd _ ?_)
  rw [ek, ed]
  exact List.mem_map.2 ⟨d, hd', rfl⟩
/-- A relation that the operations keep, one argument at a time. -/
theorem set_lt {n : Nat} {l : List Nat} (h : ∀ d ∈ l, d < n) {x : Nat} (hx : x < n) (j : Nat) : ∀ d ∈ l.set j x, d < n := fun d hd => by
  rcases List.mem_or_eq_of_mem_set hd with hd | rfl
  · exact h d hd
  · exact hx
theorem cpt_iff {n : Nat} {ops : List OpM} {p : List Int} (hn : 0 < n) (hops : ∀ o ∈ ops, OpP n o) (P : ParP n p) : CompP n ops p ↔ Cpt n ops (rl p) := by
  constructor
  · intro h o ho l hl hd j hj x y hx hy hr
    have key : ∀ z, z < n → nmAt p (nmAt o.2 (idx n (l.set j z))) = nmAt p (nmAt o.2 (idx n (l.set j (nmAt p z)))) := fun z hz => by
      have h1 := set_lt hd hz j
      have h2 : (l.set j z).length = o.1.toNat := by rw [List.length_set]; exact hl
      have h3 := h o ho j hj (idx n (l.set j z)) (by rw [(hops o ho).2.2.1]; exact idx_lt _ _ h2 h1)
      unfold PrE repI at h3
      rw [digs_idx hn _ _ h2 h1, List.set_set] at h3
      rw [h3, List.getD_eq_getElem?_getD, List.getElem?_set_self (by omega)]
      rfl
    show nmAt p _ = nmAt p _
    rw [key x hx, key y hy, show nmAt p x = nmAt p y from hr]
  · intro h o ho j hj i hi
    unfold PrE repI
    have hl : (digs n o.1.toNat i).length = o.1.toNat := digs_len _ _ _
    have hd : ∀ d ∈ digs n o.1.toNat i, d < n := fun d hd => digs_lt hn hd
    have hj' : j < (digs n o.1.toNat i).length := by omega
    have hg : (digs n o.1.toNat i).getD j 0 < n := by rw [List.getD_eq_getElem?_getD, List.getElem?_eq_getElem hj']; exact hd _ (List.getElem_mem hj')
    have hP := P.at hg
    have h1 := h o ho _ hl hd j hj ((digs n o.1.toNat i).getD j 0) (nmAt p ((digs n o.1.toNat i).getD j 0)) hg (by omega) hP.2.2.symm
    have e : (digs n o.1.toNat i).set j ((digs n o.1.toNat i).getD j 0) = digs n o.1.toNat i := by
      rw [List.getD_eq_getElem?_getD, List.getElem?_eq_getElem hj']
      exact List.set_getElem_self hj'
    rw [e] at h1
    rw [(hops o ho).2.2.1] at hi
    unfold rl at h1
    rw [idx_digs hn hi] at h1
    exact h1
/-- The kernel of a list of numbers. -/
theorem ker_rel {q : List Int} {n : Nat} (hl : q.length = n) {x y : Nat} (hx : x < n) (hy : y < n) : rl (kerL q) x y ↔ q[x]? = q[y]? := by
  have e : ∀ z, z < n → ∃ v, q[z]? = some v ∧ nmAt (kerL q) z = posN q v := fun z hz => by
    have hz' : z < q.length := by omega
    refine ⟨q[z], List.getElem?_eq_getElem hz', ?_⟩
    have : (kerL q)[z]? = some (posN q q[z] : Int) := by unfold kerL; rw [List.getElem?_map, List.getElem?_eq_getElem hz']; rfl
    rw [nmAt_get this]
    simp
  obtain ⟨v, h1, h2⟩ := e x hx
  obtain ⟨u, h3, h4⟩ := e y hy
  unfold rl
  rw [h2, h4, h1, h3]
  constructor
  · intro h
    have h5 := posN_get (List.mem_of_getElem? h1)
    have h6 := posN_get (List.mem_of_getElem? h3)
    rw [h] at h5
    rw [← h5, h6]
  · intro h
    injection h with h
    rw [h]
theorem ker_par {q : List Int} {n : Nat} (hl : q.length = n) : ParP n (kerL q) := by
  refine ⟨by rw [kerL_len]; exact hl, fun i hi => ?_⟩
  have hi' : i < q.length := by omega
  have e : (kerL q)[i]? = some (posN q q[i] : Int) := by unfold kerL; rw [List.getElem?_map, List.getElem?_eq_getElem hi']; rfl
  have e2 := nmAt_get e
  have hle := posN_least (List.getElem?_eq_getElem hi')
  have hg := posN_get (List.getElem_mem hi')
  have e2' : nmAt (kerL q) i = posN q q[i] := by rw [e2]; simp
  refine ⟨by rw [List.getD_eq_getElem?_getD, e]; show (0 : Int) ≤ (posN q q[i] : Int); omega, by omega, ?_⟩
  exact (ker_rel hl (by omega) hi).2 (by rw [e2', hg, List.getElem?_eq_getElem hi'])
/-- A partition is told by its relation. -/
theorem par_rel {n : Nat} {p q : List Int} (P : ParP n p) (Q : ParP n q) (h : ∀ x y, x < n → y < n → (rl p x y ↔ rl q x y)) : p = q := by
  refine par_ext P Q fun i hi => ?_
  have h1 := P.at hi
  have h2 := Q.at hi
  have h3 := (h i (nmAt p i) hi (by omega)).1 h1.2.2.symm
  have h4 := (h i (nmAt q i) hi (by omega)).2 h2.2.2.symm
  unfold rl at h3 h4
  have h5 := (P.at (i := nmAt q i) (by omega)).2.1
  have h6 := (Q.at (i := nmAt p i) (by omega)).2.1
  omega
theorem par_in {n : Nat} {p : List Int} (P : ParP n p) : InL n p := fun v hv => by
  obtain ⟨i, hi⟩ := List.getElem?_of_mem hv
  have hl : i < n := by rw [← P.1]; exact (List.getElem?_eq_some_iff.1 hi).1
  have h := P.at hl
  rw [hi] at h
  injection h.1 with h1
  have := h.2.1
  omega
theorem rl_ren {n : Nat} {s p : List Int} (hs : PermL n s) (P : ParP n p) {x y : Nat} (hx : x < n) (hy : y < n) : rl (kerL (comp (inv s.length s) p)) (nmAt s x) (nmAt s y) ↔ rl p x y := by
  rw [hs.1]
  have hl : (comp (inv n s) p).length = n := by rw [comp_len]; exact (inv_perm hs).1
  have e : ∀ z, z < n → (comp (inv n s) p)[nmAt s z]? = some (nmAt p z : Int) := fun z hz => by
    have h1 := nmAt_lt hs hz
    obtain ⟨v, hv, hvn, hve⟩ := (inv_perm hs).at h1
    rw [inv_s hs hz] at hve
    subst hve
    unfold comp
    rw [List.getElem?_map, hv]
    show some (nmI p (z : Int)) = _
    have := (P.at hz).1
    rw [nmI_get (s := p) (x := z) this]
  rw [ker_rel hl (nmAt_lt hs hx) (nmAt_lt hs hy), e x hx, e y hy]
  unfold rl
  exact ⟨fun h => by injection h with h; omega, fun h => by rw [h]⟩
theorem map_set' (f : Nat → Nat) (l : List Nat) (j x : Nat) : (l.set j x).map f = (l.map f).set j (f x) := by rw [List.map_set]
theorem cong_ren {n : Nat} {s p : List Int} {ops : List OpM} (hn : 0 < n) (hs : PermL n s) (hops : ∀ o ∈ ops, OpP n o) (h : congB n ops p = true) : congB n (ops.map (renOp n s)) (kerL (comp (inv s.length s) p)) = true := by
  unfold congB at h ⊢
  rw [Bool.and_eq_true, tt_iff, tt_iff] at h ⊢
  obtain ⟨P, hc⟩ := h
  have hops' : ∀ o ∈ ops.map (renOp n s), OpP n o := fun o ho => by
    obtain ⟨o1, ho1, rfl⟩ := List.mem_map.1 ho
    exact renOp_small hs (hops o1 ho1)
  have P' : ParP n (kerL (comp (inv s.length s) p)) := ker_par (by rw [comp_len, hs.1]; exact (inv_perm hs).1)
  have hc := (cpt_iff hn hops P).1 hc
  refine ⟨P', (cpt_iff hn hops' P').2 fun o' ho' l' hl' hd' j hj x' y' hx' hy' hr => ?_⟩
  obtain ⟨o, ho, rfl⟩ := List.mem_map.1 ho'
  obtain ⟨l, hl, hd, rfl⟩ := pre_list hs hd'
  obtain ⟨x, hx, rfl⟩ := hs.surj hx'
  obtain ⟨y, hy, rfl⟩ := hs.surj hy'
  have hll : l.length = o.1.toNat := by rw [hl]; exact hl'
  have hp := hops o ho
  rw [← map_set', ← map_set', ap_ren hn hs hp (by rw [List.length_set]; exact hll) (set_lt hd hx j), ap_ren hn hs hp (by rw [List.length_set]; exact hll) (set_lt hd hy j), rl_ren hs P (at_in hp.2.2.2 hn _).1 (at_in hp.2.2.2 hn _).1]
  exact hc o ho l hll hd j hj x y hx hy ((rl_ren hs P hx hy).1 hr)
theorem cong_inj {n : Nat} {s p q : List Int} (hs : PermL n s) (P : ParP n p) (Q : ParP n q) (h : kerL (comp (inv s.length s) p) = kerL (comp (inv s.length s) q)) : p = q :=
  par_rel P Q fun x y hx hy => by rw [← rl_ren hs P hx hy, ← rl_ren hs Q hx hy, h]
theorem joinTo_least {n : Nat} {p q : List Int} (P : ParP n p) (Q : ParP n q) {E : Nat → Nat → Prop} (hE : EqvN n E) (hp : ∀ x y, x < n → y < n → rl p x y → E x y) (hq : ∀ x y, x < n → y < n → rl q x y → E x y) : ∀ k, k ≤ n → ∀ x y, x < n → y < n → rl (joinTo p q k) x y → E x y
  | 0, _ => hp
  | k + 1, h => by
    have h1 := Q.at (i := k) (by omega)
    exact uni_least (joinTo_par P Q k (by omega)) hE (joinTo_least P Q hE hp hq k (by omega)) (by omega) (by omega) (hq k (nmAt q k) (by omega) (by omega) h1.2.2.symm)
theorem joinTo_keep {n : Nat} {p q : List Int} (P : ParP n p) (Q : ParP n q) : ∀ k, k ≤ n → (∀ x y, x < n → y < n → rl p x y → rl (joinTo p q k) x y) ∧ ∀ x, x < k → rl (joinTo p q k) x (nmAt q x)
  | 0, _ => ⟨fun x y _ _ h => h, fun x h => absurd h (by omega)⟩
  | k + 1, h => by
    obtain ⟨h1, h2⟩ := joinTo_keep P Q k (by omega)
    have hk := Q.at (i := k) (by omega)
    have hJ := joinTo_par P Q k (by omega)
    refine ⟨fun x y hx hy hr => uni_keep hJ hx hy (h1 x y hx hy hr), fun x hx => ?_⟩
    by_cases e : x = k
    · subst e
      exact uni_joins hJ (by omega) (by omega)
    · have := (Q.at (i := x) (by omega)).2.1
      exact uni_keep hJ (by omega) (by omega) (h2 x (by omega))
theorem join_cong {n : Nat} {p q : List Int} {ops : List OpM} (hn : 0 < n) (hops : ∀ o ∈ ops, OpP n o) (h : congB n ops p = true) (h' : congB n ops q = true) : congB n ops (joinP p q) = true := by
  unfold congB at *
  rw [Bool.and_eq_true, tt_iff, tt_iff] at *
  obtain ⟨P, hc⟩ := h
  obtain ⟨Q, hc'⟩ := h'
  have hc := (cpt_iff hn hops P).1 hc
  have hc' := (cpt_iff hn hops Q).1 hc'
  have J := joinP_par P Q
  refine ⟨J, (cpt_iff hn hops J).2 fun o ho l hl hd j hj x y hx hy hr => ?_⟩
  have hp := hops o ho
  have bd : ∀ i, nmAt o.2 i < n := fun i => (at_in hp.2.2.2 hn i).1
  obtain ⟨k1, k2⟩ := joinTo_keep P Q n (Nat.le_refl _)
  rw [joinP_n Q] at hr ⊢
  refine joinTo_least P Q (E := fun x y => rl (joinTo p q n) (nmAt o.2 (idx n (l.set j x))) (nmAt o.2 (idx n (l.set j y)))) ⟨fun x hx => rfl, fun x y hx hy h => Eq.symm h, fun x y z hx hy hz h1 h2 => Eq.trans h1 h2⟩ (fun x y hx hy h => k1 _ _ (bd _) (bd _) (hc o ho l hl hd j hj x y hx hy h)) (fun x y hx hy h => ?_) n (Nat.le_refl _) x y hx hy hr
  have h1 := hc' o ho l hl hd j hj x y hx hy h
  have h2 := k2 _ (bd (idx n (l.set j x)))
  have h3 := k2 _ (bd (idx n (l.set j y)))
  unfold rl at h1 h2 h3 ⊢
  rw [h2, h3, h1]
def keyB : List Int → List UInt8
  | [] => []
  | x :: l => 0 :: UInt8.ofNat x.toNat :: keyB l
def keyS (xs : List Int) : ByteArray := ⟨(keyB xs).toArray⟩
theorem keyB_len : ∀ xs, (keyB xs).length = 2 * xs.length
  | [] => rfl
  | x :: l => by rw [keyB, List.length_cons, List.length_cons, keyB_len l, List.length_cons]; omega
theorem keyB_snoc (x : Int) : ∀ xs, keyB (xs ++ [x]) = keyB xs ++ [0, UInt8.ofNat x.toNat]
  | [] => rfl
  | y :: l => by rw [List.cons_append, keyB, keyB, keyB_snoc x l]; rfl
theorem keyB_inj : ∀ {xs ys : List Int}, (∀ v ∈ xs, 0 ≤ v ∧ v < 256) → (∀ v ∈ ys, 0 ≤ v ∧ v < 256) → keyB xs = keyB ys → xs = ys
  | [], [], _, _, _ => rfl
  | [], _ :: _, _, _, h => by simp [keyB] at h
  | _ :: _, [], _, _, h => by simp [keyB] at h
  | x :: l, y :: m, hx, hy, h => by
    rw [keyB, keyB] at h
    injection h with _ h
    injection h with h1 h2
    have a := hx x (by simp)
    have b := hy y (by simp)
    have e : x.toNat = y.toNat := by
      have := congrArg UInt8.toNat h1
      rw [UInt8.toNat_ofNat', UInt8.toNat_ofNat'] at this
      omega
    rw [keyB_inj (fun v hv => hx v (by simp [hv])) (fun v hv => hy v (by simp [hv])) h2, show x = y by omega]
theorem keyS_inj {xs ys : List Int} (hx : ∀ v ∈ xs, 0 ≤ v ∧ v < 256) (hy : ∀ v ∈ ys, 0 ≤ v ∧ v < 256) (h : keyS xs = keyS ys) : xs = ys := by
  injection h with h
  have := congrArg Array.toList h
  exact keyB_inj hx hy this
def RU (_ : World) (v : Value) (b : UInt8) : Prop := v = .int .u8 (b.toNat : Int)
def uV (b : UInt8) : Value := .int .u8 (b.toNat : Int)
theorem info_u8 : (Tryz.prog.info? 5).map (fun i => (i.zero, i.size, i.bytes)) = some (some (.int .u8 0), 1, 1) := by kernel_rfl
theorem rd_twoU (w : World) (a b : UInt8) : RdL RU (w.alloc (.cells #[uV a, uV b] 5)) (some ⟨w.heap.size, 0, none⟩) 2 [a, b] := by
  refine ⟨rfl, by decide, fun k x hk => ?_⟩
  match k, hk with
  | 0, hk => exact ⟨w.heap.size, 0, uV a, rfl, by simp, by simp at hk; subst hk; rfl⟩
  | 1, hk => exact ⟨w.heap.size, 0, uV b, rfl, by simp, by simp at hk; subst hk; rfl⟩
  | k + 2, hk => simp at hk
theorem take_snocK {α : Type} {l : List α} {k : Nat} {x : α} (h : l[k]? = some x) : l.take (k + 1) = l.take k ++ [x] := by rw [List.take_add_one, h]; rfl
theorem own_someK {w : World} {base n c : Nat} {e : TypeId} {A : Option Addr} {xs : List Value} (h : w.ownsRow base e 1 (.slice A n c) n xs) (hn : 0 < n) : A ≠ none := by
  rcases h.2 with ⟨h0, h1⟩ | ⟨g, cap, cur, hv, -⟩
  · omega
  · injection hv with hA _ _
    rw [hA]
    simp
theorem addr_add0 (g j : Nat) : (⟨g, 0, none⟩ : Addr).add j = ⟨g, j, none⟩ := by
  unfold Addr.add
  by_cases h : j = 0 <;> simp [h]
theorem keyOf_any (A : Option Addr) (n c : Nat) (xs : List Int) (w : World) (h : RdL RI w A n xs) (hb : ∀ v ∈ xs, 0 ≤ v ∧ v < 256) (hn : n ≤ 1048576) :
    Calls Tryz.prog 88 #[.slice A n c] w (Bl w (.string (keyS xs))) := by
  have hlen := h.len
  have hn2 : (2 : Int) * (n : Int) ≤ 2097152 := by omega
  have hmk := run_make_room (P := Tryz.prog) 22 5 (.int .u8 0) 1 Tryz.underlying22 (by kernel_rfl) rfl .i64 .i64 (2 * n) (by omega) (by omega) w
  rw [show ((2 * n : Nat) : Int) = 2 * (n : Int) by omega] at hmk
  obtain ⟨w0, hw0⟩ : ∃ w0, w0 = w.alloc (.cells (madeCells #[.int .u8 0] (2 * n)) 5) := ⟨_, rfl⟩
  have T0 : Below w.heap.size w w0 := by rw [hw0]; exact below_box _ _
  have O0 : w0.ownsRow w.heap.size 5 1 (.slice (some ⟨w.heap.size, 0, none⟩) 0 (2 * n)) 0 [] := by
    rw [hw0]
    refine ⟨rfl, .inr ⟨w.heap.size, 2 * n, _, rfl, Nat.le_refl _, heap_alloc_new w _, Nat.zero_le _, by unfold maxLen; omega, ?_, rfl⟩⟩
    simp [madeCells]
  rw [← hw0] at hmk
  clear hw0
  go_enter Tryz.func88, Tryz.ntmps88
  go_wp2_with fail
  go_loopw [3, 12] (fun v i wr => ∃ (k : Nat) (B : Option Addr) (d : Nat), k ≤ n ∧ i = .int .i64 k ∧ v = .slice B (2 * k) d ∧ B ≠ none ∧ wr.ownsRow w.heap.size 5 1 (.slice B (2 * k) d) (2 * k) ((keyB (xs.take k)).map uV) ∧ Below w.heap.size w wr) (fun _ i _ => n - (intOf i).toNat)
  case atStart => exact ⟨0, _, 2 * n, Nat.zero_le _, rfl, rfl, by simp, O0, T0⟩
  case round =>
    clear O0 T0
    obtain ⟨k, B, d, hk, rfl, rfl, hBn, hown, hT⟩ := hrel
    by_cases hlt : k < n
    · obtain ⟨b, o, v, x, rfl, hc, ⟨rfl, -⟩, -, hx⟩ := (h.next stab_RI hT).at hlt
      have hxb := hb x (List.mem_of_getElem? hx)
      have hk0 : (0 : Int) ≤ (k : Int) := by omega
      have hk1 : (k : Int) < (n : Int) := by omega
      have HX := Lib.hid hx
      have hrd := rd_twoU wr 0 (UInt8.ofNat x.toNat)
      have e0 : uV 0 = .int .u8 (x / 256) := by show Value.int .u8 0 = _; rw [show x / 256 = 0 by omega]
      have e1 : uV (UInt8.ofNat x.toNat) = .int .u8 x := by
        unfold uV
        rw [UInt8.toNat_ofNat', show ((x.toNat % 2 ^ 8 : Nat) : Int) = x by omega]
      rw [e0, e1] at hrd
      have hownA := own_next hown (below_box wr (.cells #[.int .u8 (x / 256), .int .u8 x] 5))
      have hbase : w.heap.size ≤ (wr.alloc (.cells #[.int .u8 (x / 256), .int .u8 x] 5)).heap.size := by have := hT.size; simp; omega
      have hT2 := below_next hT (below_box wr (.cells #[.int .u8 (x / 256), .int .u8 x] 5)) rfl
      clear hx e0 e1
      go_upto_region 5 with fail
      go_wp2_with (at_builtin; refine appAny _ rfl _ _ 22 5 rfl (.int .u8 0) 1 Tryz.underlying22 info_u8 rfl (by decide) w.heap.size (2 * k) d B ((keyB (xs.take k)).map uV) rfl hownA (some ⟨wr.heap.size, 0, none⟩) 2 2 [0, UInt8.ofNat x.toNat] uV (fun _ => rfl) rfl hrd (fun _ _ _ hr => hr) (by omega) hbase ?_; intro A2 c2 w2 hown2 hg2 hb2)
      go_roundw
      case rel => exact ⟨k + 1, A2, c2, by omega, by go_num, rfl, own_someK hown2 (by omega), by rw [take_snocK HX.out, keyB_snoc, List.map_append]; exact hown2, hT2.trans hb2⟩
      case measure => simp [intOf]; omega
    · obtain rfl : k = n := by omega
      have hk1 : ¬ (k : Int) < (k : Int) := by omega
      have HK : Hid (xs.take k = xs) := List.take_of_length_le (by omega)
      rw [HK.out] at hown
      have hl2 : (keyB xs).length = 2 * k := by rw [keyB_len, hlen]
      have hcv : (convert 22 9 (.slice B (2 * k) d)).run Tryz.prog wr = .ok (.string (keyS xs)) wr := by
        rw [← hl2]
        rcases hown.2 with ⟨h0, h1⟩ | ⟨g, cap, cur, hv, -⟩
        · injection h0 with h0 h2 h3
          exact absurd h0 hBn
        · injection hv with hA _ _
          subst hA
          exact run_convert_bytes_back (P := Tryz.prog) wr 22 9 5 ⟨g, 0, none⟩ d (keyB xs) Tryz.underlying22 Tryz.underlying5 Tryz.underlying9 (fun j hj => by
            have := hown.cellAt j (by omega)
            rw [List.getElem?_map, List.getElem?_eq_getElem hj] at this
            rw [addr_add0, this]
            rfl)
      clear hl2
      go_wp2_with fail
      go_ret
      exact ⟨rfl, hT⟩
def cgL (p q : List Int) : Bool := decide (fixs q.length q < fixs p.length p) || (decide (fixs q.length q = fixs p.length p) && lessT p q)
theorem cgL_iff {p q : List Int} : cgL p q = true ↔ fixs q.length q < fixs p.length p ∨ (fixs q.length q = fixs p.length p ∧ lessT p q = true) := by
  unfold cgL
  rw [Bool.or_eq_true, Bool.and_eq_true, decide_eq_true_iff, decide_eq_true_iff]
theorem cgL_irr (p : List Int) : ¬ cgL p p = true := fun h => by
  rcases cgL_iff.1 h with h | ⟨-, h⟩
  · omega
  · exact lessT_irr p h
theorem cgL_trans (p q r : List Int) (h1 : cgL p q = true) (h2 : cgL q r = true) : cgL p r = true := by
  rw [cgL_iff] at *
  rcases h1 with h1 | ⟨h1, h3⟩ <;> rcases h2 with h2 | ⟨h2, h4⟩
  · exact .inl (by omega)
  · exact .inl (by omega)
  · exact .inl (by omega)
  · exact .inr ⟨by omega, lessT_trans p q r h3 h4⟩
theorem cgL_total (p q : List Int) : p = q ∨ cgL p q = true ∨ cgL q p = true := by
  rw [cgL_iff, cgL_iff]
  rcases lessT_total p q with h | h | h
  · exact .inl h
  · rcases Nat.lt_trichotomy (fixs q.length q) (fixs p.length p) with e | e | e
    · exact .inr (.inl (.inl e))
    · exact .inr (.inl (.inr ⟨e, h⟩))
    · exact .inr (.inr (.inl e))
  · rcases Nat.lt_trichotomy (fixs q.length q) (fixs p.length p) with e | e | e
    · exact .inr (.inl (.inl e))
    · exact .inr (.inr (.inr ⟨e.symm, h⟩))
    · exact .inr (.inr (.inl e))
def SrtC (L : List (List Int)) : Prop := L.Pairwise fun p q => cgL p q = true
theorem SrtC.nodup {L : List (List Int)} (h : SrtC L) : L.Nodup := List.Pairwise.imp (fun {a b} hab e => by rw [e] at hab; exact cgL_irr _ hab) h
theorem SrtC.of {L : List (List Int)} (h : L.Pairwise fun p q => cgL q p = false) (hd : L.Nodup) : SrtC L := by
  refine List.Pairwise.imp₂ (fun a b h1 h2 => ?_) h hd
  rcases cgL_total a b with e | e | e
  · exact absurd e h2
  · exact e
  · rw [h1] at e; cases e
def AllC (n : Nat) (ops : List OpM) (L : List (List Int)) : Prop := SrtC L ∧ ∀ p, p ∈ L ↔ congB n ops p = true
theorem AllC.ext {n : Nat} {ops : List OpM} {L M : List (List Int)} (h : AllC n ops L) (h' : AllC n ops M) : L = M :=
  ordered_ext (r := fun p q => cgL p q = true) cgL_irr cgL_trans h.1 h'.1 fun p => (h.2 p).trans (h'.2 p).symm
noncomputable def fewB (n : Nat) (ops : List OpM) : Bool := tt (∃ L, AllC n ops L ∧ L.length ≤ 200)
open Classical in
noncomputable def conL (n : Nat) (ops : List OpM) : List (List Int) := if h : ∃ L, AllC n ops L ∧ L.length ≤ 200 then Classical.choose h else []
theorem con_yes {n : Nat} {ops : List OpM} {L : List (List Int)} (h : AllC n ops L) (hl : L.length ≤ 200) : fewB n ops = true ∧ conL n ops = L := by
  have hx : ∃ L, AllC n ops L ∧ L.length ≤ 200 := ⟨L, h, hl⟩
  refine ⟨tt_iff.2 hx, ?_⟩
  unfold conL
  rw [dif_pos hx]
  exact (Classical.choose_spec hx).1.ext h
theorem con_no {n : Nat} {ops : List OpM} {L : List (List Int)} (hd : L.Nodup) (hc : ∀ p ∈ L, congB n ops p = true) (hl : 200 < L.length) : fewB n ops = false ∧ conL n ops = [] := by
  have hx : ¬ ∃ L, AllC n ops L ∧ L.length ≤ 200 := fun ⟨M, h, hm⟩ => by
    have := nodup_len hd fun p hp => (h.2 p).2 (hc p hp)
    omega
  refine ⟨?_, by unfold conL; rw [dif_neg hx]⟩
  rcases e : fewB n ops with _ | _
  · rfl
  · exact absurd (tt_iff.1 e) hx
theorem few_all {n : Nat} {ops : List OpM} (h : fewB n ops = true) : AllC n ops (conL n ops) ∧ (conL n ops).length ≤ 200 := by
  have hx := tt_iff.1 h
  unfold conL
  rw [dif_pos hx]
  exact Classical.choose_spec hx
def IsPr (n : Nat) (ops : List OpM) (x y : Nat) (p : List Int) : Prop := congB n ops p = true ∧ rl p x y ∧ ∀ q, congB n ops q = true → rl q x y → ∀ a b, a < n → b < n → rl p a b → rl q a b
theorem IsPr.swap {n : Nat} {ops : List OpM} {x y : Nat} {p : List Int} (h : IsPr n ops x y p) : IsPr n ops y x p := ⟨h.1, h.2.1.symm, fun q hq hr => h.2.2 q hq hr.symm⟩
theorem cong_par {n : Nat} {ops : List OpM} {p : List Int} (h : congB n ops p = true) : ParP n p := by
  unfold congB at h
  rw [Bool.and_eq_true, tt_iff] at h
  exact h.1
theorem cong_comp {n : Nat} {ops : List OpM} {p : List Int} (h : congB n ops p = true) : CompP n ops p := by
  unfold congB at h
  rw [Bool.and_eq_true, tt_iff, tt_iff] at h
  exact h.2
theorem cong_of {n : Nat} {ops : List OpM} {p : List Int} (P : ParP n p) (h : CompP n ops p) : congB n ops p = true := by
  unfold congB
  rw [Bool.and_eq_true, tt_iff, tt_iff]
  exact ⟨P, h⟩
theorem up_par (n : Nat) : ParP n (upTo n) := by
  refine ⟨by simp [upTo], fun i hi => ⟨?_, ?_, ?_⟩⟩
  · rw [List.getD_eq_getElem?_getD]
    unfold upTo
    rw [List.getElem?_map, List.getElem?_range hi]
    exact Int.natCast_nonneg i
  · rw [nmAt_up hi]; exact Nat.le_refl _
  · rw [nmAt_up hi, nmAt_up hi]
theorem up_cong {n : Nat} {ops : List OpM} (hn : 0 < n) (hops : ∀ o ∈ ops, OpP n o) : congB n ops (upTo n) = true := by
  refine cong_of (up_par n) ((cpt_iff hn hops (up_par n)).2 fun o ho l hl hd j hj x y hx hy hr => ?_)
  unfold rl at hr
  rw [nmAt_up hx, nmAt_up hy] at hr
  subst hr
  rfl
/-- Joins. -/
theorem join_up {n : Nat} {p q : List Int} (P : ParP n p) (Q : ParP n q) : (∀ x y, x < n → y < n → rl p x y → rl (joinP p q) x y) ∧ ∀ x y, x < n → y < n → rl q x y → rl (joinP p q) x y := by
  rw [joinP_n Q]
  obtain ⟨h1, h2⟩ := joinTo_keep P Q n (Nat.le_refl _)
  refine ⟨h1, fun x y hx hy h => ?_⟩
  have h3 := h2 x hx
  have h4 := h2 y hy
  unfold rl at *
  rw [h3, h4, h]
theorem rl_eqv (n : Nat) (q : List Int) : EqvN n (rl q) := ⟨fun _ _ => rfl, fun _ _ _ _ h => h.symm, fun _ _ _ _ _ _ h k => h.trans k⟩
theorem join_le {n : Nat} {p q r : List Int} (P : ParP n p) (Q : ParP n q) (hp : ∀ x y, x < n → y < n → rl p x y → rl r x y) (hq : ∀ x y, x < n → y < n → rl q x y → rl r x y) : ∀ x y, x < n → y < n → rl (joinP p q) x y → rl r x y := by
  rw [joinP_n Q]
  exact joinTo_least P Q (rl_eqv n r) hp hq n (Nat.le_refl _)
/-- A list that has the least one and the join of each with each principal one has all. -/
theorem all_of {n : Nat} {ops : List OpM} {L P : List (List Int)} (hL : ∀ p ∈ L, congB n ops p = true) (hP : ∀ p ∈ P, congB n ops p = true) (hid : upTo n ∈ L) (hpr : ∀ x y, x < y → y < n → ∃ p ∈ P, IsPr n ops x y p) (hcl : ∀ p ∈ L, ∀ q ∈ P, joinP p q ∈ L) {q : List Int} (hq : congB n ops q = true) : q ∈ L := by
  have Q := cong_par hq
  have key : ∀ k, k ≤ n → ∃ p ∈ L, (∀ x y, x < n → y < n → rl p x y → rl q x y) ∧ ∀ x, x < k → rl p x (nmAt q x) := by
    intro k
    induction k with
    | zero =>
      refine fun _ => ⟨upTo n, hid, fun x y hx hy h => ?_, fun x h => absurd h (by omega)⟩
      unfold rl at h
      rw [nmAt_up hx, nmAt_up hy] at h
      subst h
      rfl
    | succ k ih =>
      intro hk
      obtain ⟨p, hp, h1, h2⟩ := ih (by omega)
      have PP := cong_par (hL p hp)
      have hqk := Q.at (i := k) (by omega)
      by_cases e : nmAt q k = k
      · refine ⟨p, hp, h1, fun x hx => ?_⟩
        by_cases ex : x = k
        · subst ex; rw [e]; rfl
        · exact h2 x (by omega)
      · obtain ⟨r, hr, h3⟩ := hpr (nmAt q k) k (by omega) (by omega)
        have R := cong_par (hP r hr)
        obtain ⟨u1, u2⟩ := join_up PP R
        refine ⟨joinP p r, hcl p hp r hr, join_le PP R h1 (h3.2.2 q hq hqk.2.2), fun x hx => ?_⟩
        by_cases ex : x = k
        · subst ex
          exact u2 _ _ (by omega) (by omega) h3.2.1.symm
        · have := (Q.at (i := x) (by omega)).2.1
          exact u1 _ _ (by omega) (by omega) (h2 x (by omega))
  obtain ⟨p, hp, h1, h2⟩ := key n (Nat.le_refl _)
  have : p = q := par_rel (cong_par (hL p hp)) Q fun x y hx hy => ⟨h1 x y hx hy, fun h => by
    have h3 := h2 x hx
    have h4 := h2 y hy
    unfold rl at *
    rw [h3, h4, h]⟩
  exact this ▸ hp
/-- AllCongruences' answer. -/
noncomputable def acB (x : AlgebraM) : Bool := algB x && fewB x.1.toNat x.2
noncomputable def acRes (x : AlgebraM) : List (List Int) := if acB x then conL x.1.toNat x.2 else []
structure LsI (n : Nat) (ops : List OpM) (P : List (List Int)) (i j : Nat) (xs : List (List Int)) : Prop where
  nd : xs.Nodup
  cong : ∀ p ∈ xs, congB n ops p = true
  id : upTo n ∈ xs
  old : ∀ i', i' < i → ∀ p, xs[i']? = some p → ∀ q ∈ P, joinP p q ∈ xs
  now : ∀ p, xs[i]? = some p → ∀ q ∈ P.take j, joinP p q ∈ xs
theorem LsI.start {n : Nat} {ops : List OpM} (P : List (List Int)) (hn : 0 < n) (hops : ∀ o ∈ ops, OpP n o) : LsI n ops P 0 0 [upTo n] := ⟨by simp, fun p hp => by rw [List.mem_singleton.1 hp]; exact up_cong hn hops, List.mem_singleton.2 rfl, fun i' h => absurd h (by omega), fun p _ q hq => (by simp at hq)⟩
theorem LsI.had {n : Nat} {ops : List OpM} {P : List (List Int)} {i j : Nat} {xs : List (List Int)} {p q : List Int} (h : LsI n ops P i j xs) (hp : xs[i]? = some p) (hq : P[j]? = some q) (hj : joinP p q ∈ xs) : LsI n ops P i (j + 1) xs := ⟨h.nd, h.cong, h.id, h.old, fun p' hp' q' hq' => by
  rw [hp] at hp'
  injection hp' with hp'
  subst hp'
  rw [take_snocK hq] at hq'
  rcases List.mem_append.1 hq' with hq' | hq'
  · exact h.now p hp q' hq'
  · rw [List.mem_singleton.1 hq']; exact hj⟩
theorem LsI.add {n : Nat} {ops : List OpM} {P : List (List Int)} {i j : Nat} {xs : List (List Int)} {p q : List Int} (h : LsI n ops P i j xs) (hp : xs[i]? = some p) (hq : P[j]? = some q) (hj : joinP p q ∉ xs) (hc : congB n ops (joinP p q) = true) : LsI n ops P i (j + 1) (xs ++ [joinP p q]) := by
  have hi := (List.getElem?_eq_some_iff.1 hp).1
  have e : ∀ k, k ≤ i → (xs ++ [joinP p q])[k]? = xs[k]? := fun k hk => List.getElem?_append_left (by omega)
  refine ⟨List.nodup_append.2 ⟨h.nd, by simp, fun a ha b hb e => hj (by rw [← List.mem_singleton.1 hb, ← e]; exact ha)⟩, fun r hr => ?_, List.mem_append_left _ h.id, fun i' hi' p' hp' q' hq' => ?_, fun p' hp' q' hq' => ?_⟩
  · rcases List.mem_append.1 hr with hr | hr
    · exact h.cong r hr
    · rw [List.mem_singleton.1 hr]; exact hc
  · rw [e i' (by omega)] at hp'
    exact List.mem_append_left _ (h.old i' hi' p' hp' q' hq')
  · rw [e i (Nat.le_refl _), hp] at hp'
    injection hp' with hp'
    subst hp'
    rw [take_snocK hq] at hq'
    rcases List.mem_append.1 hq' with hq' | hq'
    · exact List.mem_append_left _ (h.now p hp q' hq')
    · rw [List.mem_singleton.1 hq']; exact List.mem_append_right _ (List.mem_singleton.2 rfl)
theorem LsI.next {n : Nat} {ops : List OpM} {P : List (List Int)} {i j : Nat} {xs : List (List Int)} (h : LsI n ops P i j xs) (hj : ¬ j < P.length) : LsI n ops P (i + 1) 0 xs := ⟨h.nd, h.cong, h.id, fun i' hi' p hp q hq => by
  by_cases e : i' = i
  · subst e
    exact h.now p hp q (by rw [List.take_of_length_le (by omega)]; exact hq)
  · exact h.old i' (by omega) p hp q hq, fun p _ q hq => (by simp at hq)⟩
theorem LsI.all {n : Nat} {ops : List OpM} {P : List (List Int)} {i : Nat} {xs : List (List Int)} (h : LsI n ops P i 0 xs) (hP : ∀ p ∈ P, congB n ops p = true) (hpr : ∀ x y, x < y → y < n → ∃ p ∈ P, IsPr n ops x y p) (hi : ¬ i < xs.length) {q : List Int} (hq : congB n ops q = true) : q ∈ xs :=
  all_of h.cong hP h.id hpr (fun p hp q hq => by
    obtain ⟨k, hk, e⟩ := List.getElem_of_mem hp
    exact h.old k (by omega) p (by rw [List.getElem?_eq_getElem hk, e]) q hq) hq
def partsL : Nat → List (List Int)
  | 0 => [[]]
  | k + 1 => (partsL k).flatMap fun p => (List.range (k + 1)).map fun v : Nat => p ++ [(v : Int)]
theorem parts_mem : ∀ {n : Nat} {p : List Int}, p.length = n → (∀ i, i < n → ∃ v : Nat, v ≤ i ∧ p[i]? = some (v : Int)) → p ∈ partsL n
  | 0, p, hl, _ => by rw [List.length_eq_zero_iff.1 hl]; exact List.mem_singleton.2 rfl
  | n + 1, p, hl, h => by
    obtain ⟨v, hv, e⟩ := h n (by omega)
    have e2 : p = p.take n ++ [(v : Int)] := by
      apply List.ext_getElem?
      intro i
      by_cases hi : i < n
      · rw [List.getElem?_append_left (by rw [List.length_take]; omega), List.getElem?_take_of_lt hi]
      · rw [List.getElem?_append_right (by rw [List.length_take]; omega), List.length_take]
        by_cases e3 : i = n
        · subst e3
          rw [e, show i - min i p.length = 0 by omega]
          rfl
        · rw [List.getElem?_eq_none (by omega), List.getElem?_eq_none (by simp; omega)]
    rw [e2]
    refine List.mem_flatMap.2 ⟨p.take n, parts_mem (by rw [List.length_take]; omega) fun i hi => ?_, List.mem_map.2 ⟨v, List.mem_range.2 (by omega), rfl⟩⟩
    obtain ⟨u, hu, e4⟩ := h i (by omega)
    exact ⟨u, hu, by rw [List.getElem?_take_of_lt hi]; exact e4⟩
theorem par_mem {n : Nat} {p : List Int} (P : ParP n p) : p ∈ partsL n := parts_mem P.1 fun i hi => ⟨nmAt p i, (P.at hi).2.1, (P.at hi).1⟩
theorem parts_five : ∀ n, n ≤ 5 → (partsL n).length ≤ 120 := by decide
theorem pars_len {n : Nat} {L : List (List Int)} (hn : n ≤ 5) (hd : L.Nodup) (h : ∀ p ∈ L, ParP n p) : L.length ≤ 120 := Nat.le_trans (nodup_len hd fun p hp => par_mem (h p hp)) (parts_five n hn)
def mvC (s p : List Int) : List Int := kerL (comp (inv s.length s) p)
theorem cong_len {n : Nat} {s : List Int} {ops : List OpM} {L M : List (List Int)} (hn : 0 < n) (hs : PermL n s) (hops : ∀ o ∈ ops, OpP n o) (hd : L.Nodup) (hL : ∀ p ∈ L, congB n ops p = true) (hM : ∀ p, congB n (ops.map (renOp n s)) p = true → p ∈ M) : L.length ≤ M.length := by
  have h1 : (L.map (mvC s)).Nodup := List.pairwise_map.2 (List.Pairwise.imp_of_mem (fun {a b} ha hb hab e => hab (cong_inj hs (cong_par (hL a ha)) (cong_par (hL b hb)) e)) hd)
  have h2 := nodup_len h1 fun p hp => by
    obtain ⟨q, hq, rfl⟩ := List.mem_map.1 hp
    exact hM _ (cong_ren hn hs hops (hL q hq))
  rwa [List.length_map] at h2
theorem keepM {w w' : World} {p : Addr} {v : Value} (hb : Below w.heap.size w w') (h : w.cell? p = some v) : w'.cell? p = some v := (hb.cell (cell_lt h)).trans h
theorem gk_set {w w' : World} {g : Nat} (h : w.grownBy w' (some g)) {p : Addr} (hp : p.block = g) (v : Value) : w.grownBy (w'.setCell p v) (some g) :=
  ⟨h.os, h.tape, h.output, by simpa using h.size, fun k hk hne => (Below.heap_setCell w' p v k (by intro he; rw [he, hp] at hne; exact hne rfl)).trans (h.block k hk hne)⟩
theorem gk_refl (w : World) (r : Option Nat) : w.grownBy w r := ⟨rfl, rfl, rfl, Nat.le_refl _, fun _ _ _ => rfl⟩
theorem gk_trans {w w1 w2 : World} {r : Option Nat} (h : w.grownBy w1 r) (k : w1.grownBy w2 r) : w.grownBy w2 r :=
  ⟨k.os.trans h.os, k.tape.trans h.tape, k.output.trans h.output, Nat.le_trans h.size k.size, fun b hb hne => (k.block b (Nat.lt_of_lt_of_le hb h.size) hne).trans (h.block b hb hne)⟩
theorem gk_of {w w' : World} {r : Option Nat} (h : Below w.heap.size w w') : w.grownBy w' r := ⟨h.os, h.tape, h.output, h.size, fun b hb _ => h.block b hb⟩
theorem gk_drewN {w w' : World} {r : Option Nat} (h : w.grownBy w' r) (z : Nat) : w.grownBy (w'.drewN z) r := ⟨h.os, h.tape, h.output, h.size, fun b hb hne => h.block b hb hne⟩
theorem marks_any (A : Option Addr) (m c n : Nat) (S : List Int) (w : World) (h : RdL RI w A m S) (hS : ∀ v ∈ S, 0 ≤ v ∧ v ≤ (n : Int) - 1) (hn : n ≤ 1000) :
    Calls Tryz.prog 85 #[.slice A m c, .int .i64 n] w fun e w' => e = .returned (.slice (some ⟨w.heap.size, 0, none⟩) n n) ∧ w'.ownsRow w.heap.size 4 1 (.slice (some ⟨w.heap.size, 0, none⟩) n n) n (bls (inL n S)) ∧ Below w.heap.size w w' := by
  have HS := Lib.hid hS
  have HL := Lib.hid h.len
  have hle := h.le
  clear hS
  go_enter Tryz.func85, Tryz.ntmps85
  go_wp2_with (at_make; refine make_bl w rfl _ _ rfl n rfl rfl (by omega) ?_; intro w1 hown1 hg1)
  have hb1 := (Below.refl w.heap.size w).grown hg1 (Nat.le_refl _) (by simp)
  clear hg1
  go_loopw [12] (fun i wr => ∃ k : Nat, k ≤ m ∧ i = .int .i64 k ∧ wr.ownsRow w.heap.size 4 1 (.slice (some ⟨w.heap.size, 0, none⟩) n n) n (bls (inL n (S.take k))) ∧ Below w.heap.size w wr) (fun i _ => m - (intOf i).toNat)
  case atStart =>
    refine ⟨0, Nat.zero_le _, rfl, ?_, hb1⟩
    have e : inL n (S.take 0) = List.replicate n false := by
      unfold inL
      rw [List.take_zero]
      exact List.eq_replicate_iff.2 ⟨by simp, fun b hb => by obtain ⟨y, -, rfl⟩ := List.mem_map.1 hb; rfl⟩
    rw [e]
    exact hown1
  case round =>
    clear hown1 hb1
    obtain ⟨k, hk, rfl, hown, hTr⟩ := hrel
    by_cases hlt : k < m
    · have hk0 : (0 : Int) ≤ (k : Int) := by omega
      have hk1 : (k : Int) < (m : Int) := by omega
      obtain ⟨b, o, u, v, rfl, hc, ⟨rfl, hv0, hv1⟩, -, hx⟩ := h.at hlt
      have hvi := HS.out v (List.mem_of_getElem? hx)
      obtain ⟨x, rfl⟩ := Int.eq_ofNat_of_zero_le hvi.1
      have hxn : x < n := by omega
      have HSET := Lib.hid (inL_set hx hxn)
      replace hc := keepM hTr hc
      have hcell : wr.cell? ⟨w.heap.size, x, none⟩ = some (.bool (gB (inL n (S.take k)) x)) := by rw [hown.cellAt x (by omega), bls_get (by rw [inL_len]; exact hxn)]
      have hfz := hown.frozenAt x
      have hst := (hown.stored x (.bool true)).1
      rw [bls_set, HSET.out] at hst
      have hx0 : (0 : Int) ≤ (x : Int) := by omega
      have hx1 : (x : Int) < (n : Int) := by omega
      clear hx hown
      go_wp2_with fail
      go_roundw
      case rel => exact ⟨k + 1, by omega, by go_num, hst, hTr.setCell (Nat.le_refl _) _⟩
      case measure => simp [intOf]; try omega
    · have hk1 : ¬ (k : Int) < (m : Int) := by omega
      rw [List.take_of_length_le (by rw [HL.out]; omega)] at hown
      go_wp2_with fail
      go_ret
      exact ⟨rfl, hown, hTr⟩
theorem l5List_any (A : Option Addr) (n c : Nat) (L : List Bool) (w : World) (h : RdL RB w A n L) (hn : n ≤ 1000) :
    Calls Tryz.prog 104 #[.slice A n c] w (OwI w (markL n (gB L))) := by
  have hT := below_box w (.cells #[] 3)
  have hO := World.ownsRow_lit (base := w.heap.size) (e := 3) (size := 1) w #[] 0 (Nat.le_refl _) (Nat.zero_le _) rfl
  go_enter Tryz.func104, Tryz.ntmps104
  go_wp2_with fail
  go_loopw [3, 4] (fun s i wr => ∃ (k m : Nat) (A1 : Option Addr) (c1 : Nat), k ≤ n ∧ i = .int .i64 k ∧ s = .slice A1 m c1 ∧ m = (markL k (gB L)).length ∧ wr.ownsRow w.heap.size 3 1 (.slice A1 m c1) m (ints (markL k (gB L))) ∧ Below w.heap.size w wr) (fun _ i _ => n - (intOf i).toNat)
  case atStart => exact ⟨0, 0, _, _, Nat.zero_le _, rfl, rfl, rfl, hO, hT⟩
  case round =>
    clear hO hT
    obtain ⟨k, m, A1, c1, hk, rfl, rfl, hm, hown, hTr⟩ := hrel
    have hmk : m ≤ k := by rw [hm]; exact markL_le k (gB L)
    by_cases hlt : k < n
    · have hk0 : (0 : Int) ≤ (k : Int) := by omega
      have hk1 : (k : Int) < (n : Int) := by omega
      obtain ⟨b, o, u, v, rfl, hc, rfl, -, hx⟩ := (h.next stab_RB hTr).at hlt
      have HG := Lib.hid (gB_get hx)
      have HS := Lib.hid (markL_succ k (gB L))
      rw [HG.out] at HS
      have HMM := Lib.hid hm
      clear hx hm
      rcases v with _ | _
      · go_wp2_with fail
        go_roundw
        case rel => exact ⟨k + 1, m, A1, c1, by omega, by go_num, rfl, by rw [HS.out]; simpa using HMM.out, by rw [HS.out]; simpa using hown, hTr⟩
        case measure => simp [intOf]; try omega
      · have hsz := hTr.size
        go_wp2_with (at_builtin; refine app1 wr rfl _ _ 27 3 rfl (.int .i64 0) 8 Tryz.underlying27 info_int rfl (by decide) w.heap.size m c1 A1 (ints (markL k (gB L))) rfl hown (.int .i64 (k : Int)) rfl rfl (by omega) (by omega) ?_; intro A2 c2 w2 hown2 hg2 hb2)
        go_roundw
        case rel => exact ⟨k + 1, m + 1, A2, c2, by omega, by go_num, rfl, by rw [HS.out]; simpa using HMM.out, by rw [HS.out]; simpa [ints] using hown2, hTr.trans hb2⟩
        case measure => simp [intOf]; try omega
    · have hk1 : ¬ (k : Int) < (n : Int) := by omega
      obtain rfl : k = n := by omega
      have HMM := Lib.hid hm
      clear hm
      go_wp2_with fail
      go_ret
      exact ⟨A1, c1, by rw [HMM.out]; rfl, by rw [← HMM.out]; exact hown, hTr⟩
theorem op_nat {n : Nat} {o : OpM} (h : OpP n o) : ∃ (a : Nat) (tb : List Int), o = ((a : Int), tb) ∧ a ≤ 3 := by
  obtain ⟨k, tb⟩ := o
  obtain ⟨a, ha⟩ := Int.eq_ofNat_of_zero_le h.1
  have h2 := h.2.1
  simp only at ha h2
  exact ⟨a, tb, by rw [ha], by omega⟩
theorem ints_app (a b : List Int) : ints (a ++ b) = ints a ++ ints b := by simp [ints]
theorem idx_bd {N : Nat} (hN : N ≤ 8) {l : List Nat} (hl : l.length ≤ 3) (hd : ∀ d ∈ l, d < N) : idx N l ≤ 4096 := by
  have := idx_small hN (l := l) (by omega) hd
  omega
theorem l2Value_any (cs : List Value) (x : AlgebraM) (A : Option Addr) (n c j N ar u : Nat) (l : List Nat) (tb : List Int) (w : World) (h : shAlgebra.rd w cs x) (hxN : x.1 = (N : Int)) (hN8 : N ≤ 8) (ht : RdL RI w A n (nats l)) (hd : ∀ d ∈ l, d < N) (hn : n ≤ 3) (hob : x.2[j]? = some ((ar : Int), tb)) (hu : tb[idx N l]? = some (u : Int)) :
    Calls Tryz.prog 125 #[.agg cs.toArray, .int .i64 j, .slice A n c] w (Bl w (.int .i64 (u : Int))) := by
  obtain ⟨a, ops⟩ := x
  simp only at hxN hob
  subst hxN
  obtain ⟨B, m, d, rfl, -, qo⟩ := rdAlgebra h
  have HLL : Hid (l.length = n) := by show _ = _; rw [← ht.len, nats_len]
  have HDL := Lib.hid hd
  have hjm : j < m := by rw [← qo.len]; exact (List.getElem?_eq_some_iff.1 hob).1
  obtain ⟨w0, hw0, T0, hsz0, BP⟩ := boxes1 w #[.int .i64 (N : Int), .slice B m d] 26
  have HW0 := Lib.hid hw0
  replace qo := qo.next T0
  replace ht := ht.next stab_RI T0
  obtain ⟨b2, o2, vs, y, rfl, -, hc2, hr2, -, hy⟩ := qo.at hjm
  simp only at hy
  rw [hob] at hy
  injection hy with hy
  subst hy
  obtain ⟨B', m', d', rfl, -, qt⟩ := rdOp hr2
  have cc1 : w0.cell? ⟨b2, o2 + j * 2 + 1, none⟩ = some (.slice B' m' d') := hc2 1 _ rfl
  have hj0 : (0 : Int) ≤ (j : Int) := by omega
  have hj1 : (j : Int) < (m : Int) := by omega
  have hPm : idx N l < m' := by rw [← qt.len]; exact (List.getElem?_eq_some_iff.1 hu).1
  obtain ⟨b3, o3, u3, y3, rfl, hc3, ⟨rfl, -, -⟩, -, hy3⟩ := qt.at hPm
  simp only at hy3
  rw [hu] at hy3
  injection hy3 with hy3
  subst hy3
  have cP0 := BP.cell 0
  have cP1 := BP.cell 1
  simp at cP0 cP1
  clear hw0 hsz0 hd hob hu hr2 hc2 qt qo h
  go_enter Tryz.func125, Tryz.ntmps125
  go_wp2_with fail
  rw [← HW0.out]
  go_loopw [7, 8] (fun at_ kk wi => ∃ p : Nat, p ≤ n ∧ kk = .int .i64 p ∧ at_ = .int .i64 ((idx N (l.take p) : Nat) : Int) ∧ Drawn w0 wi) (fun _ kk _ => n - (intOf kk).toNat)
  case atStart => exact ⟨0, Nat.zero_le _, rfl, rfl, Drawn.zero _⟩
  case round =>
    obtain ⟨p, hp, rfl, rfl, z, rfl⟩ := hrel
    obtain ⟨P, HP⟩ : ∃ P, Hid (idx N (l.take p) = P) := ⟨_, rfl⟩
    have hP : P ≤ 4096 := by rw [← HP.out]; exact idx_bd hN8 (by rw [List.length_take]; omega) fun d hd => HDL.out d (List.mem_of_mem_take hd)
    rw [HP.out]
    by_cases hlt : p < n
    · skip
      obtain ⟨b, o, v, q, rfl, hc, ⟨rfl, -, -⟩, -, hq⟩ := ht.at hlt
      obtain ⟨d, hd, rfl⟩ := nats_get hq
      have hdN := HDL.out d (List.mem_of_getElem? hd)
      have HT : Hid (idx N (l.take (p + 1)) = P * N + d) := by show _ = _; rw [idx_take hd, HP.out]
      have hM : P * N ≤ 4096 * 8 := Nat.mul_le_mul hP hN8
      have HEE : Hid ((P : Int) * (N : Int) = ((P * N : Nat) : Int)) := (Int.natCast_mul _ _).symm
      have hp1 : (p : Int) < (n : Int) := by omega
      have hp0 : (0 : Int) ≤ (p : Int) := by omega
      have hw1 : IntKind.i64.wrap ((P : Int) * (N : Int)) = (P : Int) * (N : Int) := by rw [IntKind.wrap_i64]; omega
      have hw2 : IntKind.i64.wrap ((P : Int) * (N : Int) + (d : Int)) = (P : Int) * (N : Int) + (d : Int) := by rw [IntKind.wrap_i64]; omega
      clear hM hq hd
      go_wp2_with fail
      go_quiet (fail)
      go_wp2_with fail
      go_roundw
      case rel => exact ⟨p + 1, by omega, by go_num, by rw [HT.out, HEE.out]; simp, (by first | exact Drawn.zero _ | exact Drawn.at_ _ _ | exact (Drawn.at_ _ _).more _ | exact ((Drawn.at_ _ _).more _).more _)⟩
      case measure => simp [intOf]; try omega
    · obtain rfl : p = n := by omega
      have hp1 : ¬ (p : Int) < (p : Int) := by omega
      have HPL : Hid (idx N l = P) := by
        show _ = _
        rw [← HP.out, List.take_of_length_le (by rw [HLL.out]; exact Nat.le_refl _)]
      rw [HPL.out] at hc3 hPm
      have hP0 : (0 : Int) ≤ (P : Int) := by omega
      have hP1 : (P : Int) < (m' : Int) := by omega
      go_wp2_with fail
      go_ret
      exact ⟨rfl, (by first | exact T0 | exact below_drewN (T0) _ | exact below_drewN (below_drewN (T0) _) _ | exact below_drewN (below_drewN (below_drewN (T0) _) _) _)⟩
theorem allIn_any (A : Option Addr) (n c ar i : Nat) (L : List Bool) (w : World) (h : RdL RB w A n L) (hn0 : 0 < n) (hn : n ≤ 1000) (ha : ar ≤ 1000) (hi : i ≤ 1048576) :
    Calls Tryz.prog 105 #[.int .i64 i, .int .i64 ar, .int .i64 n, .slice A n c] w fun e w' => e = .returned (.bool (AllM n ar i L)) ∧ w = w' := by
  have hle := h.le
  go_enter Tryz.func105, Tryz.ntmps105
  go_wp2
  go_loop [0, 1] (fun ci ck => ∃ k cur : Nat, k ≤ ar ∧ ck = .int .i64 k ∧ ci = .int .i64 cur ∧ cur ≤ 1048576 ∧ Hid (AllM n k cur L = AllM n ar i L)) (fun _ ck => (intOf ck).toNat)
  case atStart => exact ⟨ar, i, Nat.le_refl _, rfl, rfl, hi, rfl⟩
  case round =>
    obtain ⟨k, cur, hk, rfl, rfl, hc, HA⟩ := hrel
    rcases k with _ | k
    · have h0 : ¬ (0 : Int) < ((0 : Nat) : Int) := by omega
      have HR : Hid (AllM n ar i L = true) := by show _ = _; rw [← HA.out]; rfl
      go_wp2
      go_ret
      exact ⟨ret_bool HR.out.symm, rfl⟩
    · have h0 : (0 : Int) < ((k + 1 : Nat) : Int) := by omega
      have hr : cur % n < n := Nat.mod_lt _ hn0
      obtain ⟨b, o, u, v, rfl, hcc, rfl, -, hx⟩ := h.at hr
      have HE : Hid (AllM n (k + 1) cur L = (AllM n k (cur / n) L && v)) := by
        show _ = _
        unfold AllM
        rw [digs, List.all_append, ← gB_get hx]
        simp
      have hnz : ¬ (n : Int) = 0 := by omega
      have hcd : cur / n ≤ 1048576 := Nat.le_trans (Nat.div_le_self _ _) hc
      have HQ : Hid (wrap64 ((cur : Int) / (n : Int)) = ((cur / n : Nat) : Int)) := by
        show _ = _
        have e : (cur : Int) / (n : Int) = ((cur / n : Nat) : Int) := by simp
        rw [e]
        exact w64 hcd
      have hr0 : (0 : Int) ≤ ((cur % n : Nat) : Int) := by omega
      have hr1 : ((cur % n : Nat) : Int) < (n : Int) := by omega
      clear hx
      rcases v with _ | _
      · go_wp2
        go_ret
        exact ⟨ret_bool (by rw [← HA.out, HE.out, Bool.and_false]), rfl⟩
      · go_wp2
        go_round
        case rel => exact ⟨k, cur / n, by omega, by go_num, by rw [HQ.out], hcd, by show _ = _; rw [← HA.out, HE.out, Bool.and_true]⟩
        case measure => simp [intOf]; try omega
/-- What is not marked in the world. -/
noncomputable def offW (w : World) (g n : Nat) : Nat := (List.range n).countP fun y => !(tt (w.cell? ⟨g, y, none⟩ = some (.bool true)))
def flagV : Value → Nat | .bool true => 1 | _ => 0
theorem offW_row {w : World} {base g n c : Nat} {L : List Bool} (h : w.ownsRow base 4 1 (.slice (some ⟨g, 0, none⟩) n c) n (bls L)) (hl : L.length = n) : offW w g n = offs L := by
  have e : L = (List.range n).map (gB L) := gB_ext (n := n) hl (by simp) fun y hy => by
    refine (gB_get ?_).symm
    rw [List.getElem?_map, List.getElem?_range hy]
    rfl
  unfold offW offs
  rw [e, List.countP_map]
  refine List.countP_congr fun y hy => ?_
  have hyn := List.mem_range.1 hy
  have hc : w.cell? ⟨g, y, none⟩ = some (.bool (gB L y)) := by rw [h.cellAt y (by omega), bls_get (by omega)]
  rw [hc]
  simp only [Function.comp_apply]
  rcases gB L y with _ | _ <;> simp [tt]
/-- What a round has done so far: k operations, q entries of the next one. -/
def ChM (n : Nat) (ops : List OpM) (L M : List Bool) (ch : Bool) (k : Nat) : Prop := (ch = true → offs M < offs L) ∧ (ch = false → M = L ∧ ∀ j, j < k → ∀ o, ops[j]? = some o → ∀ i, i < o.2.length → OkE n M o i)
def ChN (n : Nat) (ops : List OpM) (L M : List Bool) (ch : Bool) (k q : Nat) (op : OpM) : Prop := (ch = true → offs M < offs L) ∧ (ch = false → M = L ∧ (∀ j, j < k → ∀ o, ops[j]? = some o → ∀ i, i < o.2.length → OkE n M o i) ∧ ∀ i, i < q → OkE n M op i)
theorem closeUnder_any (cs : List Value) (x : AlgebraM) (g n c base : Nat) (L0 : List Bool) (wa w : World) (h : shAlgebra.rd wa cs x) (hx : AlgP x) (hn : x.1 = (n : Int)) (hT : Below wa.heap.size wa w) (hba : wa.heap.size ≤ base) (hown : w.ownsRow base 4 1 (.slice (some ⟨g, 0, none⟩) n c) n (bls L0)) (hl0 : L0.length = n) :
    Calls Tryz.prog 84 #[.agg cs.toArray, .slice (some ⟨g, 0, none⟩) n c] w fun e w' => ∃ L, e = .returned (.slice (some ⟨g, 0, none⟩) n c) ∧ w'.ownsRow base 4 1 (.slice (some ⟨g, 0, none⟩) n c) n (bls L) ∧ L.length = n ∧ (∀ y, y < n → gB L y = clB n x.2 (gB L0) y) ∧ w.grownBy w' (some g) := by
  obtain ⟨a, ops⟩ := x
  obtain ⟨hx1, hx2, hx3, hx4⟩ := hx
  simp only at hx1 hx2 hx3 hx4 hn
  subst hn
  rw [Int.toNat_natCast] at hx4
  have hn0 : 0 < n := by omega
  have hn8 : n ≤ 8 := by omega
  obtain ⟨B, m, d, rfl, -, qo⟩ := rdAlgebra h
  have HML := Lib.hid qo.len
  have HOPS := Lib.hid hx4
  have hm4 : m ≤ 4 := by rw [← qo.len]; exact hx3
  have hgl := hown.lt g rfl
  obtain ⟨w0, hw0, T0, hsz0, BP⟩ := boxes1 w #[.int .i64 (n : Int), .slice B m d] 26
  have HW0 := Lib.hid hw0
  have hown0 := own_next hown T0
  have HB := Lib.hid hba
  have hgw : (some w.heap.size) ≠ some g := fun e => by injection e with e; omega
  have HT0 : Hid (w.grownBy w0 (some g)) := gk_of T0
  have HTA : Hid (∀ wz, w0.grownBy wz (some g) → Below wa.heap.size wa wz) := fun wz hz => (below_next hT T0 rfl).grown hz (Nat.le_trans hT.size T0.size) fun k hk => by injection hk with hk; subst hk; exact Nat.le_trans hba hgl.1
  have HBP : Hid (∀ wz, w0.grownBy wz (some g) → wz.cell? ⟨w.heap.size, 0, none⟩ = some (.int .i64 (n : Int)) ∧ wz.cell? ⟨w.heap.size, 1, none⟩ = some (.slice B m d)) := fun wz hz => by
    have := BP.grown hz hgw
    have h0 := this.cell 0
    have h1 := this.cell 1
    simp at h0 h1
    exact ⟨h0, h1⟩
  clear hw0 hsz0 hown hx3 hx4 h hT hba
  go_enter Tryz.func84, Tryz.ntmps84
  go_upto_region 1 with fail
  rw [← HW0.out]
  go_wp2_with fail
  go_loopw [5] (fun s wr => ∃ (L : List Bool) (ch : Bool), s = .bool ch ∧ Hid (ClI n ops L0 L) ∧ wr.ownsRow base 4 1 (.slice (some ⟨g, 0, none⟩) n c) n (bls L) ∧ w0.grownBy wr (some g) ∧ Hid (ch = false → ∀ o ∈ ops, ∀ i, i < o.2.length → OkE n L o i)) (fun s wr => 2 * offW wr g n + flagV s)
  case atStart => exact ⟨L0, true, rfl, ClI.start hl0, hown0, gk_refl _ _, fun h => by cases h⟩
  case round =>
    clear hown0
    obtain ⟨L, ch, rfl, HI, hown, hG, HCH⟩ := hrel
    have HMS : Hid (offW wr g n = offs L) := offW_row hown HI.out.len
    rcases ch with _ | _
    · have HD : Hid (∀ y, y < n → gB L y = clB n ops (gB L0) y) := fun y hy => HI.out.done (HCH.out rfl) hy
      go_wp2_with fail
      go_ret
      exact ⟨rfl, L, hown, HI.out.len, HD.out, gk_trans HT0.out hG⟩
    · have kP1 := (HBP.out _ hG).2
      obtain ⟨ws, HWS⟩ : ∃ ws : World, ws = wr := ⟨_, rfl⟩
      subst HWS
      have HS0 : Hid (ChM n ops L L false 0) := id (And.intro (fun h => by cases h) fun _ => And.intro rfl fun j hj => absurd hj (by omega))
      go_wp2_with fail
      clear kP1
      go_loopw [5, 14] (fun s i wr => ∃ (k : Nat) (M : List Bool) (ch : Bool), k ≤ m ∧ i = .int .i64 k ∧ s = .bool ch ∧ Hid (ClI n ops L0 M) ∧ wr.ownsRow base 4 1 (.slice (some ⟨g, 0, none⟩) n c) n (bls M) ∧ w0.grownBy wr (some g) ∧ Hid (ChM n ops L M ch k)) (fun _ i _ => m - (intOf i).toNat)
      case atStart => exact ⟨0, L, false, Nat.zero_le _, rfl, rfl, HI, hown, hG, HS0⟩
      case round =>
        clear hown hG HI
        obtain ⟨k, M, ch, hk, rfl, rfl, HI, hown, hG, HM⟩ := hrel
        by_cases hlt : k < m
        · have hk0 : (0 : Int) ≤ (k : Int) := by omega
          have hk1 : (k : Int) < (m : Int) := by omega
          obtain ⟨b, o, vs, op, rfl, -, hc, hr, -, hxo⟩ := qo.at hlt
          obtain ⟨B', m', d', rfl, -, qt⟩ := rdOp hr
          have hoP := HOPS.out op (List.mem_of_getElem? hxo)
          obtain ⟨ar, tb, rfl, har⟩ := op_nat hoP
          have HXO := Lib.hid hxo
          have HTL : Hid (m' = n ^ ar) := by show _ = _; rw [← qt.len]; have := hoP.2.2.1; simpa using this
          have HTB : Hid (tb.length = m') := qt.len
          have HTV := Lib.hid hoP.2.2.2
          have cc0 := keepc (HTA.out _ hG) (hc 0 _ rfl)
          have cc1 := keepc (HTA.out _ hG) (hc 1 _ rfl)
          have hm512 : m' ≤ 4096 := by rw [HTL.out]; exact pow_bd hn8 (by omega)
          obtain ⟨w1, hw1, T1, hsz1, BX⟩ := boxes1 wr #[.int .i64 (ar : Int), .slice B' m' d'] 64
          have HW1 := Lib.hid hw1
          have hg1 := (hown.lt g rfl)
          have hG1 : w0.grownBy w1 (some g) := gk_trans hG (gk_of T1)
          have hown1 := own_next hown T1
          have hgx : (some wr.heap.size) ≠ some g := fun e => by injection e with e; omega
          have HBX : Hid (∀ wz, w1.grownBy wz (some g) → wz.cell? ⟨wr.heap.size, 0, none⟩ = some (.int .i64 (ar : Int)) ∧ wz.cell? ⟨wr.heap.size, 1, none⟩ = some (.slice B' m' d')) := fun wz hz => by
            have := BX.grown hz hgx
            have h0 := this.cell 0
            have h1 := this.cell 1
            simp at h0 h1
            exact ⟨h0, h1⟩
          have kX1 := (HBX.out _ (gk_refl _ _)).2
          clear hc hr hw1 hsz1 hxo hown hoP
          have cc0' : wr.cell? ⟨b, o + k * 2, none⟩ = some (.int .i64 (ar : Int)) := cc0
          have cc1' : wr.cell? ⟨b, o + k * 2 + 1, none⟩ = some (.slice B' m' d') := cc1
          clear cc0 cc1
          go_wp2_with fail
          rw [← HW1.out]
          go_wp2_with fail
          clear kX1 cc0' cc1'
          have HS1 : Hid (ChN n ops L M ch k 0 ((ar : Int), tb)) := id (And.intro HM.out.1 fun h => And.intro (HM.out.2 h).1 (And.intro (HM.out.2 h).2 fun i hi => absurd hi (by omega)))
          go_loopw [5, 21] (fun s i wi => ∃ (q : Nat) (M2 : List Bool) (ch2 : Bool), q ≤ m' ∧ i = .int .i64 q ∧ s = .bool ch2 ∧ Hid (ClI n ops L0 M2) ∧ wi.ownsRow base 4 1 (.slice (some ⟨g, 0, none⟩) n c) n (bls M2) ∧ w1.grownBy wi (some g) ∧ Hid (ChN n ops L M2 ch2 k q ((ar : Int), tb))) (fun _ i _ => m' - (intOf i).toNat)
          case atStart => exact ⟨0, M, ch, Nat.zero_le _, rfl, rfl, HI, hown1, gk_refl _ _, HS1⟩
          case round =>
            clear hown1 HI HM
            obtain ⟨q, M2, ch2, hq, rfl, rfl, HI, hown, hG2, HM⟩ := hrel
            have hG3 : w0.grownBy wr (some g) := gk_trans hG1 hG2
            by_cases hlq : q < m'
            · have hq0 : (0 : Int) ≤ (q : Int) := by omega
              have hq1 : (q : Int) < (m' : Int) := by omega
              obtain ⟨b3, o3, u3, v, rfl, hc3, ⟨rfl, -, -⟩, -, hxv⟩ := (qt.next stab_RI (HTA.out _ hG3)).at hlq
              have hvi := HTV.out v (List.mem_of_getElem? hxv)
              obtain ⟨y, rfl⟩ := Int.eq_ofNat_of_zero_le hvi.1
              have hyn : y < n := by omega
              have HXV := Lib.hid hxv
              have HNM : Hid (nmAt tb q = y) := by show _ = _; rw [nmAt_get hxv]; simp
              have hll := HI.out.len
              have hcell : wr.cell? ⟨g, y, none⟩ = some (.bool (gB M2 y)) := by rw [hown.cellAt y (by omega), bls_get (by omega)]
              have hy0 : (0 : Int) ≤ (y : Int) := by omega
              have hy1 : (y : Int) < (n : Int) := by omega
              have kP0 := (HBP.out _ hG3).1
              have kX0 := (HBX.out _ hG2).1
              obtain ⟨bv, HBV⟩ : ∃ b, Hid (gB M2 y = b) := ⟨_, rfl⟩
              rw [HBV.out] at hcell
              clear hxv hvi
              rcases bv with _ | _
              · have HC := Lib.hid (allIn_any (some ⟨g, 0, none⟩) n c ar q M2 wr (rd_of_own (R := RB) hown (fun z _ => rfl)) hn0 (by omega) (by omega) (by omega))
                obtain ⟨al, HAL⟩ : ∃ b, Hid (AllM n ar q M2 = b) := ⟨_, rfl⟩
                rw [HAL.out] at HC
                have hfz := hown.frozenAt y
                have hst := (hown.stored y (.bool true)).1
                rw [bls_set] at hst
                have HST := Lib.hid hst
                have HOW := Lib.hid hown
                clear hst hown
                go_wp2_with fail
                refine HC.out.mono ?_
                rintro e w3 ⟨rfl, rfl⟩
                rcases al with _ | _
                · have HM2 : Hid (ChN n ops L M2 ch2 k (q + 1) ((ar : Int), tb)) := id ⟨HM.out.1, fun h => ⟨(HM.out.2 h).1, (HM.out.2 h).2.1, fun i hi => by
                    by_cases e : i = q
                    · subst e
                      intro hA
                      have := HAL.out
                      simp only [Int.toNat_natCast] at hA
                      rw [hA] at this
                      cases this
                    · exact (HM.out.2 h).2.2 i (by omega)⟩⟩
                  go_wp2_with fail
                  go_roundw
                  case rel => exact ⟨q + 1, M2, ch2, by omega, by go_num, rfl, HI, HOW.out, hG2, HM2⟩
                  case measure => simp [intOf]; try omega
                · have HI2 : Hid (ClI n ops L0 (M2.set y true)) := HI.out.mark hn0 (List.mem_of_getElem? HXO.out) HXV.out hyn (by simpa using HAL.out)
                  have HM2 : Hid (ChN n ops L (M2.set y true) true k (q + 1) ((ar : Int), tb)) := id ⟨fun _ => by
                    have h1 := offs_set (L := M2) (x := y) (by rw [gB_at (by omega), HBV.out])
                    rcases ch2 with _ | _
                    · rw [(HM.out.2 rfl).1] at h1 ⊢; omega
                    · have := HM.out.1 rfl; omega, fun h => by cases h⟩
                  go_wp2_with fail
                  go_roundw
                  case rel => exact ⟨q + 1, M2.set y true, true, by omega, by go_num, rfl, HI2, HST.out, gk_set hG2 rfl _, HM2⟩
                  case measure => simp [intOf]; try omega
              · have HM2 : Hid (ChN n ops L M2 ch2 k (q + 1) ((ar : Int), tb)) := id ⟨HM.out.1, fun h => ⟨(HM.out.2 h).1, (HM.out.2 h).2.1, fun i hi => by
                  by_cases e : i = q
                  · subst e
                    intro _
                    show gB M2 (nmAt tb i) = true
                    rw [HNM.out, HBV.out]
                  · exact (HM.out.2 h).2.2 i (by omega)⟩⟩
                go_wp2_with fail
                go_roundw
                case rel => exact ⟨q + 1, M2, ch2, by omega, by go_num, rfl, HI, hown, hG2, HM2⟩
                case measure => simp [intOf]; try omega
            · have hq1 : ¬ (q : Int) < (m' : Int) := by omega
              have HM2 : Hid (ChM n ops L M2 ch2 (k + 1)) := id ⟨HM.out.1, fun h => ⟨(HM.out.2 h).1, fun j hj o ho i hi => by
                by_cases e : j = k
                · subst e
                  rw [HXO.out] at ho
                  injection ho with ho
                  subst ho
                  exact (HM.out.2 h).2.2 i (by have := HTB.out; simp only at hi; omega)
                · exact (HM.out.2 h).2.1 j (by omega) o ho i hi⟩⟩
              go_wp2_with fail
              go_roundw
              case rel => exact ⟨k + 1, M2, ch2, by omega, by go_num, rfl, HI, hown, hG3, HM2⟩
              case measure => simp [intOf]; try omega
        · have hk1 : ¬ (k : Int) < (m : Int) := by omega
          have HI2 := HI
          have HFIN : Hid (ch = false → ∀ o ∈ ops, ∀ i, i < o.2.length → OkE n M o i) := fun h o ho i hi => by
            obtain ⟨j, hj⟩ := List.getElem?_of_mem ho
            have hjl := (List.getElem?_eq_some_iff.1 hj).1
            exact (HM.out.2 h).2 j (by rw [HML.out] at hjl; omega) o hj i hi
          have HMS2 : Hid (offW wr g n = offs M) := offW_row hown HI.out.len
          go_wp2_with fail
          go_roundw
          case rel => exact ⟨M, ch, rfl, HI2, hown, hG, HFIN⟩
          case measure =>
            show 2 * offW wr g n + flagV (.bool ch) < 2 * offW _ g n + flagV (.bool true)
            rw [HMS2.out, HMS.out]
            rcases ch with _ | _
            · have := (HM.out.2 rfl).1
              subst this
              show 2 * offs M + 0 < 2 * offs M + 1
              omega
            · have := HM.out.1 rfl
              show 2 * offs M + 1 < 2 * offs L + 1
              omega
theorem genL_bd {n : Nat} {ops : List OpM} {S : List Int} (hn : n ≤ 1048576) : ∀ v ∈ genL n ops S, -9223372036854775808 ≤ v ∧ v ≤ 9223372036854775807 := markL_bd n _ hn
theorem generate_any (cs : List Value) (x : AlgebraM) (A : Option Addr) (m c : Nat) (S : List Int) (w : World) (h : shAlgebra.rd w cs x) (hx : AlgP x) (hr : RdL RI w A m S) (hS : ∀ v ∈ S, 0 ≤ v ∧ v ≤ x.1 - 1) :
    Calls Tryz.prog 62 #[.agg cs.toArray, .slice A m c] w (OwI w (genL x.1.toNat x.2 S)) := by
  have hrd := h
  obtain ⟨B, k, d, rfl, -, qo⟩ := rdAlgebra h
  obtain ⟨n, hN⟩ : ∃ n : Nat, x.1 = (n : Int) := ⟨x.1.toNat, by have := hx.1; omega⟩
  have HNN := Lib.hid hN
  have hn8 : n ≤ 8 := by have := hx.2.1; omega
  have hn0 : 0 < n := by have := hx.1; omega
  have HNT : Hid (x.1.toNat = n) := by show _ = _; omega
  obtain ⟨w0, hw0, T0, hsz0, BP⟩ := boxes1 w #[.int .i64 x.1, .slice B k d] 26
  have HW0 := Lib.hid hw0
  rw [hN] at HW0 BP hS
  have cP0 := BP.cell 0
  have cP1 := BP.cell 1
  simp at cP0 cP1
  have HX := Lib.hid hx
  have HRD := Lib.hid (shAlgebra.stab hrd T0.block)
  have HS := Lib.hid hS
  have r0 := hr.next stab_RI T0
  have HM : Hid (∀ wz, Below w0.heap.size w0 wz → Calls Tryz.prog 85 #[.slice A m c, .int .i64 (n : Int)] wz fun e w' => e = .returned (.slice (some ⟨wz.heap.size, 0, none⟩) n n) ∧ w'.ownsRow wz.heap.size 4 1 (.slice (some ⟨wz.heap.size, 0, none⟩) n n) n (bls (inL n S)) ∧ Below wz.heap.size wz w') := fun wz hz => marks_any A m c n S wz (r0.next stab_RI hz) HS.out (by omega)
  have HC : Hid (∀ (g base : Nat) (wz : World), Below w0.heap.size w0 wz → w0.heap.size ≤ base → wz.ownsRow base 4 1 (.slice (some ⟨g, 0, none⟩) n n) n (bls (inL n S)) → Calls Tryz.prog 84 #[.agg #[.int .i64 (n : Int), .slice B k d], .slice (some ⟨g, 0, none⟩) n n] wz fun e w' => ∃ L, e = .returned (.slice (some ⟨g, 0, none⟩) n n) ∧ w'.ownsRow base 4 1 (.slice (some ⟨g, 0, none⟩) n n) n (bls L) ∧ L.length = n ∧ (∀ y, y < n → gB L y = clB n x.2 (gB (inL n S)) y) ∧ wz.grownBy w' (some g)) := fun g base wz hz hb ho => by
    have := closeUnder_any _ x g n n base (inL n S) w0 wz HRD.out HX.out HNN.out hz hb ho (inL_len _ _)
    rw [HNN.out] at this
    exact this
  rw [HNT.out]
  rw [hN]
  have Tk : Below w0.heap.size w0 w0 := Below.refl _ _
  clear hw0 hsz0 hrd qo h hx hr hS hN r0
  go_enter Tryz.func62, Tryz.ntmps62
  go_upto_region 1 with fail
  rw [← HW0.out]
  go_region_held3 (fun w' => w'.cell? ⟨w.heap.size, 0, none⟩ = some (.int .i64 (n : Int)) ∧ w'.cell? ⟨w.heap.size, 1, none⟩ = some (.slice B k d)) (first | go_keep | exact ⟨keepc Tk cP0, keepc Tk cP1⟩) (first
    | (go_at_call 85; (refine (HM.out _ ?_).mono ?_); (first | exact Tk | exact Below.drew Tk); rintro e wm ⟨rfl, hom, hbm⟩; replace hom := own_mono (base' := w0.heap.size) hom (by exact Tk.size); replace Tk := below_next (by first | exact Tk | exact Below.drew Tk) hbm rfl)
    | (go_at_call 84; (refine (HC.out _ w0.heap.size _ ?_ (Nat.le_refl _) ?_).mono ?_); (first | exact Tk | exact Below.drew Tk); (exact hom); rintro e wc ⟨L, rfl, hoc, hlc, hcl, hgc⟩; replace Tk := Below.grown (by first | exact Tk | exact Below.drew Tk) hgc (by exact Tk.size) (fun r hr => by injection hr with hr; have := hom.lt _ rfl; omega); have hE : markL n (gB L) = genL n x.2 S := markL_congr hcl)
    | (go_at_call 83; (refine (marked_any _ n n L _ (by exact rd_of_own (R := RB) hoc (fun z _ => rfl)) (by omega)).mono ?_); rintro e wd ⟨A5, c5, rfl, ho5, hb5⟩; replace ho5 := own_mono (base' := w0.heap.size) ho5 (by exact Tk.size); replace Tk := below_next (by first | exact Tk | exact Below.drew Tk) hb5 rfl))
  all_goals
    rw [hE] at ho5
    have HE := Lib.hid hE
    have HO := Lib.hid ho5
    clear ho5 hE hoc hom hgc hcl
    go_wp2_with fail
    go_ret
    exact ⟨A5, c5, rfl, own_mono HO.out T0.size, below_next T0 (by first | exact Tk | exact Below.drew Tk) rfl⟩
theorem isSub_any (cs : List Value) (x : AlgebraM) (A : Option Addr) (m c : Nat) (S : List Int) (w : World) (h : shAlgebra.rd w cs x) (hx : AlgP x) (hr : RdL RI w A m S) :
    Calls Tryz.prog 31 #[.agg cs.toArray, .slice A m c] w (Bl w (.bool (subB x.1.toNat x.2 S))) := by
  have hrd := h
  obtain ⟨B, k, d, rfl, -, qo⟩ := rdAlgebra h
  obtain ⟨n, hN⟩ : ∃ n : Nat, x.1 = (n : Int) := ⟨x.1.toNat, by have := hx.1; omega⟩
  have HNN := Lib.hid hN
  have hn8 : n ≤ 8 := by have := hx.2.1; omega
  have hn0 : 0 < n := by have := hx.1; omega
  have HNT : Hid (x.1.toNat = n) := by show _ = _; omega
  have hmle := hr.le
  have HL := Lib.hid hr.len
  obtain ⟨w0, hw0, T0, hsz0, BP⟩ := boxes1 w #[.int .i64 x.1, .slice B k d] 26
  have HW0 := Lib.hid hw0
  have HRD : Hid (∀ wz, Below w0.heap.size w0 wz → shAlgebra.rd wz [.int .i64 x.1, .slice B k d] x) := fun wz hz => shAlgebra.stab (shAlgebra.stab hrd T0.block) hz.block
  rw [hN] at HW0 BP HRD
  have cP0 := BP.cell 0
  have cP1 := BP.cell 1
  simp at cP0 cP1
  have HX := Lib.hid hx
  have r0 := hr.next stab_RI T0
  have HI := Lib.hid (inSize_any A m c S (n : Int) w0 r0)
  have HS := Lib.hid (rises_any A m c S w0 r0)
  obtain ⟨b1, HB1⟩ : ∃ b, Hid (allIn 0 ((n : Int) - 1) S = b) := ⟨_, rfl⟩
  obtain ⟨b2, HB2⟩ : ∃ b, Hid (risesL S = b) := ⟨_, rfl⟩
  rw [HB1.out] at HI
  rw [HB2.out] at HS
  have HR : Hid (subB n x.2 S = ((b1 && b2) && decide ((genL n x.2 S).length = m))) := by show _ = _; unfold subB; rw [HB1.out, HB2.out, HL.out]
  rw [HNT.out]
  rw [hN]
  clear hw0 hsz0 hrd qo h hx hr hN
  go_enter Tryz.func31, Tryz.ntmps31
  go_upto_region 1 with fail
  rw [← HW0.out]
  go_wp2_with fail
  refine HI.out.mono ?_
  rintro e w1 ⟨rfl, rfl⟩
  rcases b1 with _ | _
  · go_wp2_with fail
    go_ret
    exact ⟨ret_bool (by rw [HR.out]; rfl), T0⟩
  go_wp2_with fail
  refine HS.out.mono ?_
  rintro e w1 ⟨rfl, z, rfl⟩
  rcases b2 with _ | _
  · go_wp2_with fail
    go_ret
    exact ⟨ret_bool (by rw [HR.out]; rfl), below_drewN T0 z⟩
  have hin : ∀ v ∈ S, 0 ≤ v ∧ v ≤ x.1 - 1 := fun v hv => by rw [HNN.out]; exact allIn_m.1 HB1.out v hv
  have HG := Lib.hid (generate_any _ x A m c S (w0.drewN z) (HRD.out _ (below_drewN (Below.refl _ _) z)) HX.out (r0.drewN stab_RI z) hin)
  rw [HNT.out] at HG
  obtain ⟨gl, HGL⟩ : ∃ l, Hid (genL n x.2 S = l) := ⟨_, rfl⟩
  have HGB : Hid (gl.length ≤ 8) := by show _ ≤ 8; rw [← HGL.out]; exact Nat.le_trans (markL_le _ _) hn8
  rw [HGL.out] at HG HR
  have hgb := HGB.out
  clear hin
  go_wp2_with fail
  refine HG.out.mono ?_
  rintro e w2 ⟨A2, c2, rfl, ho2, hb2⟩
  clear ho2
  go_wp2_with fail
  go_ret
  exact ⟨ret_bool (by rw [HR.out, Bool.true_and, Bool.true_and, Bool.eq_iff_iff]; simp; try omega), below_next T0 ((below_drewN (Below.refl _ _) z).trans hb2) rfl⟩
end Go.Proofs.YtbkgbckbbnflpaaGreat
