
/- Walks: systemFrom, SystemFrom of the program and of the reference. -/
import Derived.Test.YtlncpabnlnipoaaGreatSortR
import Derived.Test.YtlncpabnlnipoaaGreatIrr
import Derived.Deep.DeepCutAuto
namespace Go.Proofs.YtlncpabnlnipoaaGreat
open Go.RowKit

/-! ## The plain law -/
structure GenL (n : Nat) (xss acc : List (List Int)) : Prop where
  nd : acc.Nodup
  set : ∀ p ∈ acc, IsSet n p
  top : upTo n ∈ acc
  sub : ∀ p ∈ acc, p ∈ systemL n xss
theorem GenL.start (n : Nat) (xss : List (List Int)) : GenL n xss [upTo n] :=
  ⟨by simp, fun p hp => by rw [List.mem_singleton.1 hp]; exact upTo_set n, List.mem_singleton.2 rfl, fun p hp => by rw [List.mem_singleton.1 hp]; exact systemL_top n xss⟩
theorem GenL.len {n : Nat} {xss acc : List (List Int)} (h : GenL n xss acc) (hn : n ≤ 6) : acc.length ≤ 64 := by
  have h1 := nodup_len (l := acc) (m := subs (upTo n)) h.nd fun p hp => mem_subs (set_sub (h.set p hp))
  rw [subs_len, upTo_len] at h1
  exact Nat.le_trans h1 (Nat.le_trans (Nat.pow_le_pow_right (by decide) hn) (by decide))
theorem GenL.add {n : Nat} {xss acc : List (List Int)} (h : GenL n xss acc) {p : List Int} (hs : IsSet n p) (hi : p ∈ systemL n xss) (hn : p ∉ acc) : GenL n xss (acc ++ [p]) := by
  refine ⟨?_, ?_, List.mem_append_left _ h.top, ?_⟩
  · rw [List.nodup_append]
    exact ⟨h.nd, by simp, fun a ha b hb e => by rw [List.mem_singleton.1 hb] at e; exact hn (e ▸ ha)⟩
  · intro q hq
    rcases List.mem_append.1 hq with hq | hq
    · exact h.set q hq
    · rw [List.mem_singleton.1 hq]; exact hs
  · intro q hq
    rcases List.mem_append.1 hq with hq | hq
    · exact h.sub q hq
    · rw [List.mem_singleton.1 hq]; exact hi
theorem GenL.meet {n : Nat} {xss acc : List (List Int)} (h : GenL n xss acc) {p q : List Int} (hp : p ∈ acc) (hq : q ∈ acc) : IsSet n (meetL q p) ∧ meetL q p ∈ systemL n xss :=
  ⟨(h.set p hp).meet q, systemL_cl n xss p (h.sub p hp) q (h.sub q hq)⟩
/-- The pairs of the first i, and those of i with the first k, have their meets in the list. -/
def Prs (acc : List (List Int)) (i k : Nat) : Prop := ∀ a b p q, acc[a]? = some p → acc[b]? = some q → b < a → (a < i ∨ (a = i ∧ b < k)) → meetL q p ∈ acc
theorem Prs.zero (acc : List (List Int)) : Prs acc 0 0 := fun a b p q _ _ h1 h2 => by omega
theorem Prs.next {acc : List (List Int)} {i k : Nat} (h : Prs acc i k) (hk : i ≤ k) : Prs acc (i + 1) 0 := fun a b p q hp hq h1 h2 => h a b p q hp hq h1 (by omega)
theorem Prs.step {acc : List (List Int)} {i k : Nat} {p q : List Int} (h : Prs acc i k) (hi : acc[i]? = some p) (hk : acc[k]? = some q) (hm : meetL q p ∈ acc) : Prs acc i (k + 1) := by
  intro a b p' q' hp hq h1 h2
  by_cases e : a = i ∧ b = k
  · obtain ⟨rfl, rfl⟩ := e
    rw [hi] at hp
    rw [hk] at hq
    injection hp with hp
    injection hq with hq
    subst hp
    subst hq
    exact hm
  · exact h a b p' q' hp hq h1 (by omega)
theorem Prs.app {acc : List (List Int)} {i k : Nat} {r : List Int} (h : Prs acc i k) (hi : i < acc.length) : Prs (acc ++ [r]) i k := by
  intro a b p q hp hq h1 h2
  rw [List.getElem?_append_left (by omega)] at hp
  rw [List.getElem?_append_left (by omega)] at hq
  exact List.mem_append_left _ (h a b p q hp hq h1 h2)
theorem gen_fin {n : Nat} {xss acc yss : List (List Int)} (h : GenL n xss acc) (hx : ∀ p ∈ xss, p ∈ acc) (hP : Prs acc acc.length 0) (hp : yss.Perm acc) (hs : yss.Pairwise fun p r => lessT r p = false) : yss = systemL n xss := by
  have hcl : Cl acc := by
    intro p hp q hq
    obtain ⟨a, ha⟩ := List.getElem?_of_mem hp
    obtain ⟨b, hb⟩ := List.getElem?_of_mem hq
    have hal := (List.getElem?_eq_some_iff.1 ha).1
    have hbl := (List.getElem?_eq_some_iff.1 hb).1
    rcases Nat.lt_trichotomy a b with hab | hab | hab
    · have h1 := hP b a q p hb ha hab (.inl hbl)
      have e : meetL q p = meetL p q := set_ext ((h.set p hp).meet q) ((h.set q hq).meet p) fun x => by rw [mem_meetL, mem_meetL]; exact ⟨fun h => ⟨h.2, h.1⟩, fun h => ⟨h.2, h.1⟩⟩
      rw [e]
      exact h1
    · subst hab
      rw [ha] at hb
      injection hb with hb
      subst hb
      have e : meetL p p = p := set_ext ((h.set p hp).meet p) (h.set p hp) fun x => by rw [mem_meetL]; exact ⟨fun h => h.1, fun h => ⟨h, h⟩⟩
      rw [e]
      exact hp
    · exact hP a b p q ha hb hab (.inl hal)
  have hsub : ∀ p ∈ systemL n xss, p ∈ acc := systemTo_min hcl hx fun p hp => by rw [List.mem_singleton.1 hp]; exact h.top
  have hnd : yss.Nodup := hp.nodup_iff.2 h.nd
  have hsrt : Srt yss := by
    refine (hs.and hnd).imp ?_
    intro a b hab
    rcases lessT_total a b with e | e | e
    · exact absurd e hab.2
    · exact e
    · rw [hab.1] at e; cases e
  exact Srt.ext hsrt (systemL_inv n xss).1 fun p => by rw [hp.mem_iff]; exact ⟨h.sub p, hsub p⟩
theorem take_snocL {α : Type} {l : List α} {k : Nat} {x : α} (h : l[k]? = some x) : l.take (k + 1) = l.take k ++ [x] := by rw [List.take_add_one, h]; rfl
theorem place_no {xss : List (List Int)} {p : List Int} (h : place xss p < 0) : p ∉ xss := fun hh => by have := place_iff.2 hh; omega
theorem place_yes {xss : List (List Int)} {p : List Int} (h : ¬ place xss p < 0) : p ∈ xss := place_iff.1 (by omega)
theorem gen_bd {n : Nat} {acc : List (List Int)} (h : ∀ p ∈ acc, IsSet n p) (hn : n ≤ 6) : ∀ xs ∈ acc, ∀ x ∈ xs, ∀ wz : World, RI wz (.int .i64 x) x := fun xs hxs x hx _ => by
  have := (h xs hxs).2 x hx
  exact ⟨rfl, by omega, by omega⟩
theorem mat_one {w w1 : World} {n : Nat} {v : Value} {xs : List Int} (h : Below w.heap.size w w1) (ho : w1.ownsRow w.heap.size 3 1 v n (xs.map (.int .i64))) : OwM 25 3 (.int .i64) w.heap.size (w1.alloc (.cells #[v] 25)) (.slice (some ⟨w1.heap.size, 0, none⟩) 1 1) 1 [xs] := by
  have hl : xs.length = n := by have := ho.1; simpa using this
  refine ⟨[v], World.ownsRow_lit (e := 25) (size := 1) w1 #[v] 1 h.size (by decide) rfl, rfl, fun k u ys hu hy => ?_, ?_⟩
  · match k, hu, hy with
    | 0, hu, hy =>
      simp at hu hy
      subst hu
      subst hy
      rw [hl]
      exact own_next ho (below_box w1 _)
    | k + 1, hu, hy => simp at hu
  · rw [List.filterMap_cons]
    cases v.ownBlock <;> simp

/-! ## The walk -/
theorem keepS {w w' : World} (h : Below w.heap.size w w') {b k : Nat} {v : Value} (hc : w.cell? ⟨b, k, none⟩ = some v) : w'.cell? ⟨b, k, none⟩ = some v := (World.cell?_of_block (w := w) (h.block b (cell_lt hc))).trans hc
/-- The matrix being gathered, of a call's own. -/
def GenM (n : Nat) (xss : List (List Int)) (w wr : World) (v : Value) (acc : List (List Int)) : Prop :=
  GenL n xss acc ∧ (∃ A c, v = .slice A acc.length c ∧ OwM 25 3 (.int .i64) w.heap.size wr (.slice A acc.length c) acc.length acc) ∧ Below w.heap.size w wr
set_option maxRecDepth 100000 in
set_option maxHeartbeats 8000000 in
theorem systemFrom_any (n : Nat) (A : Option Addr) (m c : Nat) (xss : List (List Int)) (w : World) (h : RdL (RV RI) w A m xss) (hn : n ≤ 6) (hs : ∀ p ∈ xss, IsSet n p) :
    Calls Tryz.prog 46 #[.int .i64 n, .slice A m c] w fun e w' => ∃ B q d, e = .returned (.slice B q d) ∧ OwM 25 3 (.int .i64) w.heap.size w' (.slice B q d) q (systemL n xss) ∧ Below w.heap.size w w' := by
  have hle := h.le
  have HS := Lib.hid hs
  have HN := Lib.hid hn
  have hn64 : n ≤ 9223372036854775807 := by omega
  go_enter Tryz.func46, Tryz.ntmps46
  go_wp2_with fail
  refine (identityOf_any n _ (by omega)).mono ?_
  rintro e w1 ⟨g1, rfl, how1, hb1⟩
  have hM0 := mat_one (xs := upTo n) hb1 how1
  have hT0 : Below w.heap.size w (w1.alloc (.cells #[.slice (some ⟨g1, 0, none⟩) n n] 25)) := below_next hb1 (below_box w1 _) rfl
  clear how1
  go_wp2_with fail
  go_loopw [5, 16] (fun v i wr => ∃ (k : Nat) (acc : List (List Int)), k ≤ m ∧ i = .int .i64 k ∧ GenM n xss w wr v acc ∧ (∀ p ∈ xss.take k, p ∈ acc)) (fun _ i _ => m - (intOf i).toNat)
  case atStart => exact ⟨0, [upTo n], Nat.zero_le _, rfl, ⟨GenL.start n xss, ⟨_, _, rfl, hM0⟩, hT0⟩, fun p hp => by simp at hp⟩
  case round =>
    clear hM0 hT0 hb1
    obtain ⟨k, acc, hk, rfl, ⟨hG, ⟨A', c', rfl, hown⟩, hT⟩, hall⟩ := hrel
    have hal := hG.len HN.out
    have HG := Lib.hid hG
    have HALL := Lib.hid hall
    clear hG hall
    have hrd := hown.rd (R := RI) fun xs hxs x hx => gen_bd HG.out.set HN.out xs hxs x hx wr
    by_cases hlt : k < m
    · obtain ⟨b, o, v, s, rfl, hc, ⟨B, j, d, rfl, hsr⟩, hd, hx⟩ := (h.next stab_RVI hT).at hlt
      have HX := Lib.hid hx
      have hss := HS.out s (List.mem_of_getElem? hx)
      have HSS := Lib.hid hss
      have hjl := Lib.hid hsr.len
      have hj6 : j ≤ 1048576 := by have := isSet_len hss; rw [hsr.len] at this; omega
      have hk0 : (0 : Int) ≤ (k : Int) := by omega
      have hk1 : (k : Int) < (m : Int) := by omega
      clear hd hx hss
      by_cases hp : place acc s < 0
      · have HP := Lib.hid (place_no hp)
        have hT2 := hT.size
        obtain ⟨pv, hpv⟩ : ∃ pv, place acc s = pv := ⟨_, rfl⟩
        rw [hpv] at hp
        have HPV := Lib.hid hpv
        clear hpv
        go_wp2_with (go_at_call 64; refine (patternAt_any _ _ _ _ _ _ _ _ _ hrd hsr).mono ?_; rintro e w' ⟨rfl, rfl⟩; rw [HPV.out])
        refine (clone_any _ _ _ _ _ hsr hj6).mono ?_
        rintro e w4 ⟨A4, c4, rfl, how4, hb4⟩
        obtain ⟨vs, hvs, HPU⟩ := hown.push (by decide) hb4 hT2 (by rw [hjl.out]; exact how4)
        have hT4 := below_next hT hb4 rfl
        have hsz4 := hT4.size
        go_wp2_with (at_builtin; refine app1 w4 rfl _ _ 24 25 rfl (.slice none 0 0) 24 Tryz.underlying24 info_ints rfl (by decide) w.heap.size acc.length c' A' vs rfl hvs (.slice A4 j c4) rfl rfl (by omega) hsz4 ?_; intro A2 c2 w5 hown5 hg5 hb5)
        go_roundw
        case rel =>
          refine ⟨k + 1, acc ++ [s], by omega, by go_num, ⟨HG.out.add HSS.out (systemTo_has (List.mem_singleton.2 rfl) HSS.out (List.mem_of_getElem? HX.out)) HP.out, ⟨A2, c2, by rw [List.length_append]; rfl, by rw [List.length_append]; exact HPU hown5 hg5⟩, hT4.trans hb5⟩, fun p hp => ?_⟩
          rw [take_snocL HX.out] at hp
          rcases List.mem_append.1 hp with hp | hp
          · exact List.mem_append_left _ (HALL.out p hp)
          · rw [List.mem_singleton.1 hp]; exact List.mem_append_right _ (List.mem_singleton.2 rfl)
        case measure => simp [intOf]; omega
      · have HP := Lib.hid (place_yes hp)
        obtain ⟨pv, hpv⟩ : ∃ pv, place acc s = pv := ⟨_, rfl⟩
        rw [hpv] at hp
        have HPV := Lib.hid hpv
        clear hpv
        go_wp2_with (go_at_call 64; refine (patternAt_any _ _ _ _ _ _ _ _ _ hrd hsr).mono ?_; rintro e w' ⟨rfl, rfl⟩; rw [HPV.out])
        go_roundw
        case rel =>
          refine ⟨k + 1, acc, by omega, by go_num, ⟨HG.out, ⟨A', c', rfl, hown⟩, hT⟩, fun p hp => ?_⟩
          rw [take_snocL HX.out] at hp
          rcases List.mem_append.1 hp with hp | hp
          · exact HALL.out p hp
          · rw [List.mem_singleton.1 hp]; exact HP.out
        case measure => simp [intOf]; omega
    · have hlt' : ¬ (k : Int) < (m : Int) := by omega
      have HX : Hid (∀ p ∈ xss, p ∈ acc) := by
        intro p hp
        refine HALL.out p ?_
        rw [List.take_of_length_le (by rw [h.len]; omega)]
        exact hp
      clear HALL
      go_wp2_with fail
      go_loopw [5, 8] (fun v i wr => ∃ (i' : Nat) (acc : List (List Int)), i' ≤ acc.length ∧ i = .int .i64 i' ∧ GenM n xss w wr v acc ∧ (∀ p ∈ xss, p ∈ acc) ∧ Prs acc i' 0) (fun _ i _ => 65 - (intOf i).toNat)
      case atStart => exact ⟨0, acc, Nat.zero_le _, rfl, ⟨HG.out, ⟨A', c', rfl, hown⟩, hT⟩, HX.out, Prs.zero _⟩
      case round =>
        clear hown hT hrd hal HG HX
        obtain ⟨i, acc, hi, rfl, ⟨hG, ⟨A', c', rfl, hown⟩, hT⟩, hall, hP⟩ := hrel
        have hal := hG.len HN.out
        have HG := Lib.hid hG
        have HALL := Lib.hid hall
        have HPR := Lib.hid hP
        clear hG hall hP
        by_cases hli : i < acc.length
        · have hi1 : (i : Int) < (acc.length : Int) := by omega
          go_wp2_with fail
          go_loopw [5, 9] (fun v k wr => ∃ (k' : Nat) (acc : List (List Int)), k' ≤ i ∧ i < acc.length ∧ k = .int .i64 k' ∧ GenM n xss w wr v acc ∧ (∀ p ∈ xss, p ∈ acc) ∧ Prs acc i k') (fun _ k _ => i - (intOf k).toNat)
          case atStart => exact ⟨0, acc, Nat.zero_le _, hli, rfl, ⟨HG.out, ⟨A', c', rfl, hown⟩, hT⟩, HALL.out, HPR.out⟩
          case round =>
            clear hown hT hal HG HALL HPR hi1 hli hi
            obtain ⟨k, acc, hk, hli, rfl, ⟨hG, ⟨A', c', rfl, hown⟩, hT⟩, hall, hP⟩ := hrel
            have hal := hG.len HN.out
            have HG := Lib.hid hG
            have HALL := Lib.hid hall
            have HPR := Lib.hid hP
            clear hG hall hP
            by_cases hki : k < i
            · have hrd := hown.rd (R := RI) fun xs hxs x hx => gen_bd HG.out.set HN.out xs hxs x hx wr
              obtain ⟨b, o, v1, s, rfl, hc1, ⟨B1, j1, d1, rfl, hs1⟩, -, hx1⟩ := hrd.at hli
              obtain ⟨v2, t, hc2, ⟨B2, j2, d2, rfl, hs2⟩, -, hx2⟩ := hrd.at' (k := k) (by omega)
              have HX1 := Lib.hid hx1
              have HX2 := Lib.hid hx2
              have hjl : j1 ≤ 1048576 := by have := isSet_len (HG.out.set s (List.mem_of_getElem? hx1)); rw [hs1.len] at this; omega
              have hk0 : (0 : Int) ≤ (k : Int) := by omega
              have hk1 : (k : Int) < (i : Int) := by omega
              have hk2 : (k : Int) < (acc.length : Int) := by omega
              have hi0 : (0 : Int) ≤ (i : Int) := by omega
              have hi1 : (i : Int) < (acc.length : Int) := by omega
              have hC : ∀ wz, Below wr.heap.size wr wz → Calls Tryz.prog 40 #[.slice B1 j1 d1, .slice B2 j2 d2] wz (fun e w' => ∃ A3 n3 c3, e = .returned (.slice A3 n3 c3) ∧ w'.ownsRow wz.heap.size 3 1 (.slice A3 n3 c3) n3 (ints (meetL t s)) ∧ Below wz.heap.size wz w') := fun wz hz =>
                meetLists_any _ _ _ _ _ _ _ _ _ (hs1.next stab_RI hz) (hs2.next stab_RI hz) hjl
              have Tk : Below wr.heap.size wr wr := Below.refl _ _
              clear hrd hx1 hx2 hs1 hs2
              go_upto_region 14 with fail
              go_cut [10] from 41 to 57 (fun v10 wx => ∃ A3 n3 c3, v10 = .slice A3 n3 c3 ∧ wx.ownsRow wr.heap.size 3 1 (.slice A3 n3 c3) n3 (ints (meetL t s)) ∧ Below wr.heap.size wr wx)
              case first =>
                go_region_held3 (fun w' => w'.cell? ⟨b, o + i, none⟩ = some (.slice B1 j1 d1) ∧ w'.cell? ⟨b, o + k, none⟩ = some (.slice B2 j2 d2)) (first | go_keep | exact ⟨keepS Tk hc1, keepS Tk hc2⟩) (first
                  | (go_at_call 40; (with_reducible refine (hC _ ?_).mono ?_); (first | exact Tk | exact Below.drew Tk); rintro e wn ⟨A3, n3, c3, rfl, how3, hbn⟩; replace Tk := below_next (by first | exact Tk | exact Below.drew Tk) hbn rfl))
                all_goals
                  go_wp2_with fail
                  go_meet
                  exact ⟨A3, n3, c3, rfl, own_mono how3 (Nat.le_refl _), by first | exact Tk | exact Below.drew Tk⟩
              case rest =>
                obtain ⟨A3, n3, c3, rfl, how3, hTc⟩ := hcut
                obtain ⟨w5, HWC⟩ : ∃ wq : World, wq = wc := ⟨_, rfl⟩
                subst HWC
                have hown5 := hown.next hTc
                have hT5 := below_next hT hTc rfl
                obtain ⟨hms, hmi⟩ := HG.out.meet (List.mem_of_getElem? HX1.out) (List.mem_of_getElem? HX2.out)
                have HMS := Lib.hid hms
                have HMI := Lib.hid hmi
                have hrd5 := hown5.rd (R := RI) fun xs hxs x hx => gen_bd HG.out.set HN.out xs hxs x hx w5
                have hrm := rd_of_own (R := RI) how3 (fun x hx => by have := HMS.out.2 x hx; exact ⟨rfl, by omega, by omega⟩)
                have hml : (meetL t s).length = n3 := by have := how3.1; simpa [ints] using this
                have HML := Lib.hid hml
                have hsz5 := hT.size
                clear hms hmi hc1 hc2 hC Tk hml
                by_cases hp : place acc (meetL t s) < 0
                · have HP := Lib.hid (place_no hp)
                  obtain ⟨pv, hpv⟩ : ∃ pv, place acc (meetL t s) = pv := ⟨_, rfl⟩
                  rw [hpv] at hp
                  have HPV := Lib.hid hpv
                  clear hpv
                  obtain ⟨vs, hvs, HPU⟩ := hown.push (xs := meetL t s) (by decide) hTc hsz5 (by rw [HML.out]; exact how3)
                  have hsz6 := hT5.size
                  go_wp2_with (first | (go_at_call 64; refine (patternAt_any _ _ _ _ _ _ _ _ _ hrd5 hrm).mono ?_; rintro e w' ⟨rfl, rfl⟩; rw [HPV.out]) | (at_builtin; refine app1 w5 rfl _ _ 24 25 rfl (.slice none 0 0) 24 Tryz.underlying24 info_ints rfl (by decide) w.heap.size acc.length c' (some ⟨b, o, none⟩) vs rfl hvs (.slice A3 n3 c3) rfl rfl (by omega) hsz6 ?_; intro A2 c2 w6 hown6 hg6 hb6))
                  go_roundw
                  case rel =>
                    exact ⟨k + 1, acc ++ [meetL t s], by omega, by rw [List.length_append]; omega, by go_num, ⟨HG.out.add HMS.out HMI.out HP.out, ⟨A2, c2, by rw [List.length_append]; rfl, by rw [List.length_append]; exact HPU hown6 hg6⟩, hT5.trans hb6⟩, fun p hp => List.mem_append_left _ (HALL.out p hp),
                      (HPR.out.app hli).step (by rw [List.getElem?_append_left hli]; exact HX1.out) (by rw [List.getElem?_append_left (by omega)]; exact HX2.out) (List.mem_append_right _ (List.mem_singleton.2 rfl))⟩
                  case measure => simp [intOf]; omega
                · have HP := Lib.hid (place_yes hp)
                  obtain ⟨pv, hpv⟩ : ∃ pv, place acc (meetL t s) = pv := ⟨_, rfl⟩
                  rw [hpv] at hp
                  have HPV := Lib.hid hpv
                  clear hpv
                  go_wp2_with (go_at_call 64; refine (patternAt_any _ _ _ _ _ _ _ _ _ hrd5 hrm).mono ?_; rintro e w' ⟨rfl, rfl⟩; rw [HPV.out])
                  go_roundw
                  case rel => exact ⟨k + 1, acc, by omega, hli, by go_num, ⟨HG.out, ⟨_, c', rfl, hown5⟩, hT5⟩, HALL.out, HPR.out.step HX1.out HX2.out HP.out⟩
                  case measure => simp [intOf]; omega
            · have hk1 : ¬ (k : Int) < (i : Int) := by omega
              go_wp2_with fail
              go_roundw
              case rel => exact ⟨i + 1, acc, by omega, by go_num, ⟨HG.out, ⟨A', c', rfl, hown⟩, hT⟩, HALL.out, HPR.out.next (by omega)⟩
              case measure => simp [intOf]; omega
        · have hi1 : ¬ (i : Int) < (acc.length : Int) := by omega
          have hie : i = acc.length := by omega
          have HPE : Hid (Prs acc acc.length 0) := by show Prs _ _ _; rw [← hie]; exact HPR.out
          have hlo := hT.size
          have hsort := sortRows_any w.heap.size A' c' acc.length acc wr hown hlo (gen_bd HG.out.set HN.out) (by omega)
          clear hie
          go_wp2_with (go_at_call 52; refine hsort.mono ?_; rintro e w6 ⟨rfl, yss, hM6, hP6, hS6, hb6⟩)
          go_ret
          exact ⟨A', acc.length, c', rfl, by rw [← gen_fin HG.out HALL.out HPE.out hP6 hS6]; exact hM6, hT.trans hb6⟩
end Go.Proofs.YtlncpabnlnipoaaGreat
