
/- Walks: one entry more in a catalogue (impl.withEntry). Printed by genwith.py. -/
import Derived.Test.YtbpdbimdefdefaaInsP
namespace Go.Proofs.Ytbpdbimdefdefaa
open Go.RowKit

theorem own_formE {w : World} {base : Nat} {e : TypeId} {size : Nat} {A : Option Addr} {n c : Nat} {xs : List Value} (h : w.ownsRow base e size (.slice A n c) n xs) (hn : 0 < n) : ∃ g, A = some ⟨g, 0, none⟩ ∧ base ≤ g ∧ n ≤ c := by
  rcases h.2 with ⟨h0, h1⟩ | ⟨g, cap, cur, hv, hb, _, hnc, _⟩
  · omega
  · injection hv with hA _ hc
    exact ⟨g, hA, hb, by omega⟩
section
variable {lo k : Nat} {w : World} {v : Value} {xs : List EntryM} {css : List (List Value)} {bls : List (List Nat)}
theorem with_all (h : PE lo w v xs css bls) : ∀ c ∈ css, c.length = 3 := h.1.all
theorem with_len (h : PE lo w v xs css bls) (_hk : k ≤ xs.length) : (css.drop k).flatten.length = (xs.length - k) * 3 := by
  rw [flat_len (m := 3) fun c hc => with_all h c (List.mem_of_mem_drop hc), List.length_drop, h.1.l1]
theorem with_lent (h : PE lo w v xs css bls) (hk : k ≤ xs.length) : (css.take k).flatten.length = k * 3 := by
  have := h.1.l1
  rw [flat_len (m := 3) fun c hc => with_all h c (List.mem_of_mem_take hc), List.length_take, Nat.min_eq_left (by omega)]
theorem with_split (css : List (List Value)) (k : Nat) : css.flatten = (css.take k).flatten ++ (css.drop k).flatten := by rw [← List.flatten_append, List.take_append_drop]
theorem with_olds {g n c : Nat} (h : PE lo w (.slice (some ⟨g, 0, none⟩) n c) xs css bls) : ∀ j u, (css.take k).flatten[j]? = some u → w.cell? ((⟨g, 0, none⟩ : Addr).add j) = some u := fun j u hu => by
  refine h.2.1.cells (g := g) rfl j u ?_
  have hj := (List.getElem?_eq_some_iff.1 hu).1
  rw [with_split css k, List.getElem?_append_left hj]
  exact hu
theorem with_news {g n c : Nat} (h : PE lo w (.slice (some ⟨g, 0, none⟩) n c) xs css bls) (hk : k ≤ xs.length) : ∀ j u, (css.drop k).flatten[j]? = some u → w.cell? ((⟨g, k * 3, none⟩ : Addr).add j) = some u := fun j u hu => by
  have hl := with_lent h hk
  have := h.2.1.cells (g := g) rfl (k * 3 + j) u (by rw [with_split css k, List.getElem?_append_right (by omega), hl, Nat.add_sub_cancel_left]; exact hu)
  have e : ∀ (o j : Nat), (⟨g, o, none⟩ : Addr).add j = ⟨g, o + j, none⟩ := fun o j => by
    unfold Addr.add
    split
    · rename_i h0; subst h0; rfl
    · rfl
  rw [e] at this ⊢
  rw [Nat.zero_add] at this
  exact this
theorem with_one (h : PE lo w v xs css bls) : ∀ u ∈ (css.drop k).flatten, u.oneCell' = true := fun u hu => by
  obtain ⟨c, hc, hu⟩ := List.mem_flatten.1 hu
  obtain ⟨j, hj⟩ := List.getElem?_of_mem (List.mem_of_mem_drop hc)
  have hjl := (List.getElem?_eq_some_iff.1 hj).1
  have e1 := h.1.l1
  have e2 := h.1.l2
  have ho := h.1.el j c _ _ hj (List.getElem?_eq_getElem (by omega)) (List.getElem?_eq_getElem (by omega))
  obtain ⟨B, m, d, rfl, -, -, -⟩ := rdEntry (shEntry.ord ho)
  simp at hu
  rcases hu with rfl | rfl | rfl <;> rfl
theorem with_flat (css : List (List Value)) (ce : List Value) (k : Nat) : (css.take k ++ ce :: css.drop k).flatten = (css.take k).flatten ++ (ce ++ (css.drop k).flatten) := by rw [List.flatten_append, List.flatten_cons]
end
def WithR (lo : Nat) (w : World) (xs : List EntryM) (e : EntryM) (bls : List (List Nat)) (bk : List Nat) (e' : Ending) (w' : World) : Prop :=
  ∃ A n c css' bls', e' = .returned (.tuple #[.slice A n c, .bool (!dupB xs e)]) ∧ PE lo w' (.slice A n c) (if dupB xs e = true then xs else insM xs e) css' bls' ∧ Below w.heap.size w w' ∧ ∀ b ∈ List.flatten bls', b ∈ bls.flatten ∨ b ∈ bk
set_option linter.unusedVariables false in
set_option linter.unusedSimpArgs false in
set_option maxRecDepth 100000 in
set_option maxHeartbeats 16000000 in
theorem withEntry_some (lo g c : Nat) (xs : List EntryM) (css : List (List Value)) (bls : List (List Nat)) (e : EntryM) (V : Option Addr) (m d : Nat) (bk : List Nat) (w : World)
    (hP : PE lo w (.slice (some ⟨g, 0, none⟩) xs.length c) xs css bls) (ho : shEntry.own w [.string e.1, .int .i64 e.2.1, .slice V m d] e bk) (hbk : bk.Nodup) (hb : ∀ b ∈ bk, lo ≤ b ∧ b < w.heap.size) (hdis : ∀ b ∈ bk, b ∉ bls.flatten) (hlo : lo ≤ w.heap.size)
    (hS : ∀ x ∈ xs, SmallP x.2) (he : SmallP e.2) (hl : xs.length ≤ 1048575) :
    Calls Try.prog 58 #[.slice (some ⟨g, 0, none⟩) xs.length c, .agg #[.string e.1, .int .i64 e.2.1, .slice V m d]] w (WithR lo w xs e bls bk) := by
  obtain ⟨B', m', d', hce, hsz, hIn, hops⟩ := rdEntry (shEntry.ord ho)
  simp only [List.cons.injEq, Value.slice.injEq, and_true, true_and] at hce
  obtain ⟨rfl, rfl, rfl⟩ := hce
  have hre := mkAlgebra (cOps := d) hIn hops
  obtain ⟨w0, hw0, T0, hsz0, BP⟩ := boxes1 w #[.string e.1, .int .i64 e.2.1, .slice V m d] 64
  have HW0 := Lib.hid hw0
  have hgc : xs.length ≤ c := by
    rcases hP.2.1.2 with ⟨e', h0⟩ | ⟨g', cap, cur, e', -, -, h1, -⟩
    · injection e' with e1 _ _
      cases e1
    · injection e' with _ _ e3
      omega
  have HSM := Lib.hid hS
  clear hw0 hops hS
  go_enter Try.func58, Try.ntmps58
  go_wp2_with fail
  rw [← HW0.out]
  go_loopw [6] (fun i wr => ∃ k : Nat, k ≤ xs.length ∧ i = .int .i64 k ∧ Hid (PosAt e.2 xs k) ∧ Below w0.heap.size w0 wr) (fun i _ => xs.length - (intOf i).toNat)
  case atStart => exact ⟨0, Nat.zero_le _, rfl, PosAt.start _ _, Below.refl _ _⟩
  case round =>
    obtain ⟨k, hk, rfl, HPA, hT⟩ := hrel
    have hTw := below_next T0 hT rfl
    have hPr := hP.next hTw
    have Tk : Below wr.heap.size wr wr := Below.refl _ _
    have cb1 := (BP.next hT).cell 1
    have cb2 := (BP.next hT).cell 2
    simp at cb1 cb2
    by_cases hlt : k < xs.length
    · have hk0 : (0 : Int) ≤ (k : Int) := by omega
      have hk1 : (k : Int) < (xs.length : Int) := by omega
      have hl1 := hPr.1.l1
      have hl2 := hPr.1.l2
      have hy : xs[k]? = some (xs[k]'hlt) := List.getElem?_eq_getElem hlt
      generalize xs[k]'hlt = y at hy
      have hcj : css[k]? = some (css[k]'(by omega)) := List.getElem?_eq_getElem (by omega)
      have hbj : bls[k]? = some (bls[k]'(by omega)) := List.getElem?_eq_getElem (by omega)
      generalize css[k]'(by omega) = cj at hcj
      generalize bls[k]'(by omega) = bj at hbj
      have hoy := hPr.1.el k cj y bj hcj hy hbj
      obtain ⟨B, q, r, rfl, hszy, hIny, hopsy⟩ := rdEntry (shEntry.ord hoy)
      have hry := mkAlgebra (cOps := r) hIny hopsy
      have cc1 : wr.cell? ⟨g, k * 3 + 1, none⟩ = some (.int .i64 y.2.1) := hPr.1.cell rfl hcj (i := 1) rfl
      have cc2 : wr.cell? ⟨g, k * 3 + 2, none⟩ = some (.slice B q r) := hPr.1.cell rfl hcj (i := 2) rfl
      have hsy := HSM.out y (List.mem_of_getElem? hy)
      obtain ⟨cv, HCV⟩ : ∃ cv, Hid (cmpI y.2 e.2 = cv) := ⟨_, rfl⟩
      have HC : ∀ wz, Below wr.heap.size wr wz → Calls Try.prog 97 #[.agg #[.int .i64 y.2.1, .slice B q r], .agg #[.int .i64 e.2.1, .slice V m d]] wz (Bl wz (.int .i64 cv)) := fun wz hz => by
        have h1 := compareModels_any [.int .i64 y.2.1, .slice B q r] [.int .i64 e.2.1, .slice V m d] y.2 e.2 wz (shAlgebra.stab hry hz.block) (shAlgebra.stab (shAlgebra.stab hre hTw.block) hz.block) hsy he
        rw [HCV.out] at h1
        exact h1
      have HZ : Hid (cv = 0 ↔ eqC y.2 e.2 = true) := by
        show _ ↔ _
        rw [← HCV.out, cmpI_zero hsy he, eqC_iff]
      have HY := Lib.hid hy
      clear hoy hy hcj hbj hopsy hry hszy hIny
      by_cases hcv : cv < 0
      · have HB : Hid (befB y.2 e.2 = true) := by show _ = _; rw [befB_cmp, HCV.out, decide_eq_true hcv]
        go_wp2_with fail
        refine wp_region_held_drew (S := fun w' => w'.cell? ⟨g, k * 3 + 1, none⟩ = some (.int .i64 y.2.1) ∧ w'.cell? ⟨g, k * 3 + 2, none⟩ = some (.slice B q r) ∧ w'.cell? ⟨w.heap.size, 1, none⟩ = some (.int .i64 e.2.1) ∧ w'.cell? ⟨w.heap.size, 2, none⟩ = some (.slice V m d)) (by kernel_rfl) ⟨cc1, cc2, cb1, cb2⟩ (fun hHeld0 => ?_)
        refine wpAnyH_take (i := 0) (v := .int .i64 k) rfl (by kernel_rfl) (by kernel_rfl) (by kernel_rfl) (fun _ _ _ h => h) (Or.inl ⟨by kernel_rfl, fun _ _ => by go_simp⟩) (by assumption) ?_
        (try simp only [Act.put, List.getElem_toArray, List.getElem_cons_zero, List.getElem_cons_succ, List.setIfInBounds_toArray, List.set_cons_zero, List.set_cons_succ])
        refine wpAnyH_take (i := 1) (v := .slice (some ⟨g, 0, none⟩) xs.length c) rfl (by kernel_rfl) (by kernel_rfl) (by kernel_rfl) (fun _ _ _ h => h) (Or.inl ⟨by kernel_rfl, fun _ _ => by go_simp⟩) (by assumption) ?_
        (try simp only [Act.put, List.getElem_toArray, List.getElem_cons_zero, List.getElem_cons_succ, List.setIfInBounds_toArray, List.set_cons_zero, List.set_cons_succ])
        refine wpAnyH_take (i := 2) (v := .int .i64 xs.length) rfl (by kernel_rfl) (by kernel_rfl) (by kernel_rfl) (fun _ _ _ h => h) (Or.inl ⟨by kernel_rfl, fun _ _ => by go_simp⟩) (by assumption) ?_
        (try simp only [Act.put, List.getElem_toArray, List.getElem_cons_zero, List.getElem_cons_succ, List.setIfInBounds_toArray, List.set_cons_zero, List.set_cons_succ])
        refine wpAnyH_take (i := 3) (v := .bool true) rfl (by kernel_rfl) (by kernel_rfl) (by kernel_rfl) (fun _ _ _ h => h) (Or.inl ⟨by kernel_rfl, fun _ _ => by go_simp⟩) (by assumption) ?_
        (try simp only [Act.put, List.getElem_toArray, List.getElem_cons_zero, List.getElem_cons_succ, List.setIfInBounds_toArray, List.set_cons_zero, List.set_cons_succ])
        refine wpAnyH_take (i := 4) (v := .bool true) rfl (by kernel_rfl) (by kernel_rfl) (by kernel_rfl) (fun _ _ _ h => h) (Or.inl ⟨by kernel_rfl, fun _ _ => by go_simp⟩) (by assumption) ?_
        (try simp only [Act.put, List.getElem_toArray, List.getElem_cons_zero, List.getElem_cons_succ, List.setIfInBounds_toArray, List.set_cons_zero, List.set_cons_succ])
        refine wpAnyH_take (i := 5) (v := .slice (some ⟨g, 0, none⟩) xs.length c) rfl (by kernel_rfl) (by kernel_rfl) (by kernel_rfl) (fun _ _ _ h => h) (Or.inl ⟨by kernel_rfl, fun _ _ => by go_simp⟩) (by assumption) ?_
        (try simp only [Act.put, List.getElem_toArray, List.getElem_cons_zero, List.getElem_cons_succ, List.setIfInBounds_toArray, List.set_cons_zero, List.set_cons_succ])
        refine wpAnyH_take (i := 6) (v := .int .i64 k) rfl (by kernel_rfl) (by kernel_rfl) (by kernel_rfl) (fun _ _ _ h => h) (Or.inl ⟨by kernel_rfl, fun _ _ => by go_simp⟩) (by assumption) ?_
        (try simp only [Act.put, List.getElem_toArray, List.getElem_cons_zero, List.getElem_cons_succ, List.setIfInBounds_toArray, List.set_cons_zero, List.set_cons_succ])
        refine wpAnyH_take (i := 7) (v := .pointer (some ⟨g, k * 3, none⟩)) rfl (by kernel_rfl) (by kernel_rfl) (by kernel_rfl) (fun _ _ _ h => h) (Or.inl ⟨by kernel_rfl, fun _ _ => by go_simp⟩) (by assumption) ?_
        (try simp only [Act.put, List.getElem_toArray, List.getElem_cons_zero, List.getElem_cons_succ, List.setIfInBounds_toArray, List.set_cons_zero, List.set_cons_succ])
        refine wpAnyH_take (i := 8) (v := .pointer (some ⟨g, k * 3 + 1, none⟩)) rfl (by kernel_rfl) (by kernel_rfl) (by kernel_rfl) (fun _ _ _ h => h) (Or.inl ⟨by kernel_rfl, fun _ _ => by go_simp⟩) (by assumption) ?_
        (try simp only [Act.put, List.getElem_toArray, List.getElem_cons_zero, List.getElem_cons_succ, List.setIfInBounds_toArray, List.set_cons_zero, List.set_cons_succ])
        refine wpAnyH_take (i := 9) (v := .agg #[.int .i64 y.2.1, .slice B q r]) rfl (by kernel_rfl) (by kernel_rfl) (by kernel_rfl) (fun _ _ _ h => h) (Or.inl ⟨by kernel_rfl, fun wv hSw => by (obtain ⟨hS0, hS1, hS2, hS3⟩ := hSw); go_simp⟩) (by assumption) ?_
        (try simp only [Act.put, List.getElem_toArray, List.getElem_cons_zero, List.getElem_cons_succ, List.setIfInBounds_toArray, List.set_cons_zero, List.set_cons_succ])
        refine wpAnyH_take (i := 10) (v := .pointer (some ⟨w.heap.size, 1, none⟩)) rfl (by kernel_rfl) (by kernel_rfl) (by kernel_rfl) (fun _ _ _ h => h) (Or.inl ⟨by kernel_rfl, fun _ _ => by go_simp⟩) (by assumption) ?_
        (try simp only [Act.put, List.getElem_toArray, List.getElem_cons_zero, List.getElem_cons_succ, List.setIfInBounds_toArray, List.set_cons_zero, List.set_cons_succ])
        refine wpAnyH_take (i := 11) (v := .agg #[.int .i64 e.2.1, .slice V m d]) rfl (by kernel_rfl) (by kernel_rfl) (by kernel_rfl) (fun _ _ _ h => h) (Or.inl ⟨by kernel_rfl, fun wv hSw => by (obtain ⟨hS0, hS1, hS2, hS3⟩ := hSw); go_simp⟩) (by assumption) ?_
        (try simp only [Act.put, List.getElem_toArray, List.getElem_cons_zero, List.getElem_cons_succ, List.setIfInBounds_toArray, List.set_cons_zero, List.set_cons_succ])
        refine wpAnyH_ready (rs := [12]) (by kernel_rfl) (by simp) ?_
        refine AllReadyH.cons rfl (fun K hK => ?_) AllReadyH.nil
        go_simp
        refine (HC _ (Below.drew Tk)).mono ?_
        rintro e' wn ⟨rfl, hbn⟩
        replace Tk := below_next (Below.drew Tk) hbn rfl
        go_wp2_with fail
        refine hK.out _ _ ⟨keepc Tk cc1, keepc Tk cc2, keepc Tk cb1, keepc Tk cb2⟩ (fun hHeld1 => ?_)
        clear hK K hHeld0
        (try simp only [Act.put, List.getElem_toArray, List.getElem_cons_zero, List.getElem_cons_succ, List.setIfInBounds_toArray, List.set_cons_zero, List.set_cons_succ])
        refine wpAnyH_take (i := 13) (v := .bool true) rfl (by kernel_rfl) (by kernel_rfl) (by kernel_rfl) (fun _ _ _ h => h) (Or.inl ⟨by kernel_rfl, fun _ _ => by go_simp⟩) (by assumption) ?_
        (try simp only [Act.put, List.getElem_toArray, List.getElem_cons_zero, List.getElem_cons_succ, List.setIfInBounds_toArray, List.set_cons_zero, List.set_cons_succ])
        refine wpAnyH_take (i := 14) (v := .bool true) rfl (by kernel_rfl) (by kernel_rfl) (by kernel_rfl) (fun _ _ _ h => h) (Or.inl ⟨by kernel_rfl, fun _ _ => by go_simp⟩) (by assumption) ?_
        (try simp only [Act.put, List.getElem_toArray, List.getElem_cons_zero, List.getElem_cons_succ, List.setIfInBounds_toArray, List.set_cons_zero, List.set_cons_succ])
        refine wpAnyH_done (by kernel_rfl) ?_ _
        go_wp2_with fail
        go_roundw
        case rel => exact ⟨k + 1, by omega, by go_num, HPA.out.step HY.out HB.out, below_next hT Tk rfl⟩
        case measure => simp [intOf]; omega
      · have HB : Hid (befB y.2 e.2 = false) := by show _ = _; rw [befB_cmp, HCV.out, decide_eq_false hcv]
        have HPO : Hid (posL e.2 xs = k) := HPA.out.stop HY.out HB.out
        go_wp2_with fail
        refine wp_region_held_drew (S := fun w' => w'.cell? ⟨g, k * 3 + 1, none⟩ = some (.int .i64 y.2.1) ∧ w'.cell? ⟨g, k * 3 + 2, none⟩ = some (.slice B q r) ∧ w'.cell? ⟨w.heap.size, 1, none⟩ = some (.int .i64 e.2.1) ∧ w'.cell? ⟨w.heap.size, 2, none⟩ = some (.slice V m d)) (by kernel_rfl) ⟨cc1, cc2, cb1, cb2⟩ (fun hHeld0 => ?_)
        refine wpAnyH_take (i := 0) (v := .int .i64 k) rfl (by kernel_rfl) (by kernel_rfl) (by kernel_rfl) (fun _ _ _ h => h) (Or.inl ⟨by kernel_rfl, fun _ _ => by go_simp⟩) (by assumption) ?_
        (try simp only [Act.put, List.getElem_toArray, List.getElem_cons_zero, List.getElem_cons_succ, List.setIfInBounds_toArray, List.set_cons_zero, List.set_cons_succ])
        refine wpAnyH_take (i := 1) (v := .slice (some ⟨g, 0, none⟩) xs.length c) rfl (by kernel_rfl) (by kernel_rfl) (by kernel_rfl) (fun _ _ _ h => h) (Or.inl ⟨by kernel_rfl, fun _ _ => by go_simp⟩) (by assumption) ?_
        (try simp only [Act.put, List.getElem_toArray, List.getElem_cons_zero, List.getElem_cons_succ, List.setIfInBounds_toArray, List.set_cons_zero, List.set_cons_succ])
        refine wpAnyH_take (i := 2) (v := .int .i64 xs.length) rfl (by kernel_rfl) (by kernel_rfl) (by kernel_rfl) (fun _ _ _ h => h) (Or.inl ⟨by kernel_rfl, fun _ _ => by go_simp⟩) (by assumption) ?_
        (try simp only [Act.put, List.getElem_toArray, List.getElem_cons_zero, List.getElem_cons_succ, List.setIfInBounds_toArray, List.set_cons_zero, List.set_cons_succ])
        refine wpAnyH_take (i := 3) (v := .bool true) rfl (by kernel_rfl) (by kernel_rfl) (by kernel_rfl) (fun _ _ _ h => h) (Or.inl ⟨by kernel_rfl, fun _ _ => by go_simp⟩) (by assumption) ?_
        (try simp only [Act.put, List.getElem_toArray, List.getElem_cons_zero, List.getElem_cons_succ, List.setIfInBounds_toArray, List.set_cons_zero, List.set_cons_succ])
        refine wpAnyH_take (i := 4) (v := .bool true) rfl (by kernel_rfl) (by kernel_rfl) (by kernel_rfl) (fun _ _ _ h => h) (Or.inl ⟨by kernel_rfl, fun _ _ => by go_simp⟩) (by assumption) ?_
        (try simp only [Act.put, List.getElem_toArray, List.getElem_cons_zero, List.getElem_cons_succ, List.setIfInBounds_toArray, List.set_cons_zero, List.set_cons_succ])
        refine wpAnyH_take (i := 5) (v := .slice (some ⟨g, 0, none⟩) xs.length c) rfl (by kernel_rfl) (by kernel_rfl) (by kernel_rfl) (fun _ _ _ h => h) (Or.inl ⟨by kernel_rfl, fun _ _ => by go_simp⟩) (by assumption) ?_
        (try simp only [Act.put, List.getElem_toArray, List.getElem_cons_zero, List.getElem_cons_succ, List.setIfInBounds_toArray, List.set_cons_zero, List.set_cons_succ])
        refine wpAnyH_take (i := 6) (v := .int .i64 k) rfl (by kernel_rfl) (by kernel_rfl) (by kernel_rfl) (fun _ _ _ h => h) (Or.inl ⟨by kernel_rfl, fun _ _ => by go_simp⟩) (by assumption) ?_
        (try simp only [Act.put, List.getElem_toArray, List.getElem_cons_zero, List.getElem_cons_succ, List.setIfInBounds_toArray, List.set_cons_zero, List.set_cons_succ])
        refine wpAnyH_take (i := 7) (v := .pointer (some ⟨g, k * 3, none⟩)) rfl (by kernel_rfl) (by kernel_rfl) (by kernel_rfl) (fun _ _ _ h => h) (Or.inl ⟨by kernel_rfl, fun _ _ => by go_simp⟩) (by assumption) ?_
        (try simp only [Act.put, List.getElem_toArray, List.getElem_cons_zero, List.getElem_cons_succ, List.setIfInBounds_toArray, List.set_cons_zero, List.set_cons_succ])
        refine wpAnyH_take (i := 8) (v := .pointer (some ⟨g, k * 3 + 1, none⟩)) rfl (by kernel_rfl) (by kernel_rfl) (by kernel_rfl) (fun _ _ _ h => h) (Or.inl ⟨by kernel_rfl, fun _ _ => by go_simp⟩) (by assumption) ?_
        (try simp only [Act.put, List.getElem_toArray, List.getElem_cons_zero, List.getElem_cons_succ, List.setIfInBounds_toArray, List.set_cons_zero, List.set_cons_succ])
        refine wpAnyH_take (i := 9) (v := .agg #[.int .i64 y.2.1, .slice B q r]) rfl (by kernel_rfl) (by kernel_rfl) (by kernel_rfl) (fun _ _ _ h => h) (Or.inl ⟨by kernel_rfl, fun wv hSw => by (obtain ⟨hS0, hS1, hS2, hS3⟩ := hSw); go_simp⟩) (by assumption) ?_
        (try simp only [Act.put, List.getElem_toArray, List.getElem_cons_zero, List.getElem_cons_succ, List.setIfInBounds_toArray, List.set_cons_zero, List.set_cons_succ])
        refine wpAnyH_take (i := 10) (v := .pointer (some ⟨w.heap.size, 1, none⟩)) rfl (by kernel_rfl) (by kernel_rfl) (by kernel_rfl) (fun _ _ _ h => h) (Or.inl ⟨by kernel_rfl, fun _ _ => by go_simp⟩) (by assumption) ?_
        (try simp only [Act.put, List.getElem_toArray, List.getElem_cons_zero, List.getElem_cons_succ, List.setIfInBounds_toArray, List.set_cons_zero, List.set_cons_succ])
        refine wpAnyH_take (i := 11) (v := .agg #[.int .i64 e.2.1, .slice V m d]) rfl (by kernel_rfl) (by kernel_rfl) (by kernel_rfl) (fun _ _ _ h => h) (Or.inl ⟨by kernel_rfl, fun wv hSw => by (obtain ⟨hS0, hS1, hS2, hS3⟩ := hSw); go_simp⟩) (by assumption) ?_
        (try simp only [Act.put, List.getElem_toArray, List.getElem_cons_zero, List.getElem_cons_succ, List.setIfInBounds_toArray, List.set_cons_zero, List.set_cons_succ])
        refine wpAnyH_ready (rs := [12]) (by kernel_rfl) (by simp) ?_
        refine AllReadyH.cons rfl (fun K hK => ?_) AllReadyH.nil
        go_simp
        refine (HC _ (Below.drew Tk)).mono ?_
        rintro e' wn ⟨rfl, hbn⟩
        replace Tk := below_next (Below.drew Tk) hbn rfl
        go_wp2_with fail
        refine hK.out _ _ ⟨keepc Tk cc1, keepc Tk cc2, keepc Tk cb1, keepc Tk cb2⟩ (fun hHeld1 => ?_)
        clear hK K hHeld0
        (try simp only [Act.put, List.getElem_toArray, List.getElem_cons_zero, List.getElem_cons_succ, List.setIfInBounds_toArray, List.set_cons_zero, List.set_cons_succ])
        refine wpAnyH_take (i := 13) (v := .bool false) rfl (by kernel_rfl) (by kernel_rfl) (by kernel_rfl) (fun _ _ _ h => h) (Or.inl ⟨by kernel_rfl, fun _ _ => by go_simp⟩) (by assumption) ?_
        (try simp only [Act.put, List.getElem_toArray, List.getElem_cons_zero, List.getElem_cons_succ, List.setIfInBounds_toArray, List.set_cons_zero, List.set_cons_succ])
        refine wpAnyH_take (i := 14) (v := .bool false) rfl (by kernel_rfl) (by kernel_rfl) (by kernel_rfl) (fun _ _ _ h => h) (Or.inl ⟨by kernel_rfl, fun _ _ => by go_simp⟩) (by assumption) ?_
        (try simp only [Act.put, List.getElem_toArray, List.getElem_cons_zero, List.getElem_cons_succ, List.setIfInBounds_toArray, List.set_cons_zero, List.set_cons_succ])
        refine wpAnyH_done (by kernel_rfl) ?_ _
        go_wp2_with fail
        obtain ⟨dv, HDV⟩ : ∃ dv, Hid (eqC y.2 e.2 = dv) := ⟨_, rfl⟩
        have HDU : Hid (dupB xs e = dv) := by show _ = _; rw [dup_at HPO.out HY.out, HDV.out]
        replace cc1 := keepc Tk cc1
        replace cc2 := keepc Tk cc2
        replace cb1 := keepc Tk cb1
        replace cb2 := keepc Tk cb2
        have hT1 := below_next hT Tk rfl
        have hTw1 := below_next hTw Tk rfl
        obtain ⟨w1, HW1⟩ : ∃ w1 : World, w1 = wn := ⟨_, rfl⟩
        have HC1 : ∀ wz, Below w1.heap.size w1 wz → Calls Try.prog 97 #[.agg #[.int .i64 y.2.1, .slice B q r], .agg #[.int .i64 e.2.1, .slice V m d]] wz (Bl wz (.int .i64 cv)) := fun wz hz => HC wz (below_next Tk (by rw [HW1] at hz; exact hz) rfl)
        rw [← HW1] at cc1 cc2 cb1 cb2 hT1 hTw1 ⊢
        clear HW1 HC Tk hbn hT hTw hPr
        have hT := hT1
        have hTw := hTw1
        have HC := HC1
        have Tk : Below w1.heap.size w1 w1 := Below.refl _ _
        clear hT1 hTw1 HC1
        rcases dv with _ | _
        · have hc0 : (cv == 0) = false := by
            cases h9 : cv == 0 with
            | false => rfl
            | true => have h8 := HZ.out.1 (eq_of_beq h9); rw [HDV.out] at h8; cases h8
          refine wp_region_held_drew (S := fun w' => w'.cell? ⟨g, k * 3 + 1, none⟩ = some (.int .i64 y.2.1) ∧ w'.cell? ⟨g, k * 3 + 2, none⟩ = some (.slice B q r) ∧ w'.cell? ⟨w.heap.size, 1, none⟩ = some (.int .i64 e.2.1) ∧ w'.cell? ⟨w.heap.size, 2, none⟩ = some (.slice V m d)) (by kernel_rfl) ⟨cc1, cc2, cb1, cb2⟩ (fun hHeld0 => ?_)
          refine wpAnyH_take (i := 0) (v := .int .i64 k) rfl (by kernel_rfl) (by kernel_rfl) (by kernel_rfl) (fun _ _ _ h => h) (Or.inl ⟨by kernel_rfl, fun _ _ => by go_simp⟩) (by assumption) ?_
          (try simp only [Act.put, List.getElem_toArray, List.getElem_cons_zero, List.getElem_cons_succ, List.setIfInBounds_toArray, List.set_cons_zero, List.set_cons_succ])
          refine wpAnyH_take (i := 1) (v := .slice (some ⟨g, 0, none⟩) xs.length c) rfl (by kernel_rfl) (by kernel_rfl) (by kernel_rfl) (fun _ _ _ h => h) (Or.inl ⟨by kernel_rfl, fun _ _ => by go_simp⟩) (by assumption) ?_
          (try simp only [Act.put, List.getElem_toArray, List.getElem_cons_zero, List.getElem_cons_succ, List.setIfInBounds_toArray, List.set_cons_zero, List.set_cons_succ])
          refine wpAnyH_take (i := 2) (v := .int .i64 xs.length) rfl (by kernel_rfl) (by kernel_rfl) (by kernel_rfl) (fun _ _ _ h => h) (Or.inl ⟨by kernel_rfl, fun _ _ => by go_simp⟩) (by assumption) ?_
          (try simp only [Act.put, List.getElem_toArray, List.getElem_cons_zero, List.getElem_cons_succ, List.setIfInBounds_toArray, List.set_cons_zero, List.set_cons_succ])
          refine wpAnyH_take (i := 3) (v := .bool true) rfl (by kernel_rfl) (by kernel_rfl) (by kernel_rfl) (fun _ _ _ h => h) (Or.inl ⟨by kernel_rfl, fun _ _ => by go_simp⟩) (by assumption) ?_
          (try simp only [Act.put, List.getElem_toArray, List.getElem_cons_zero, List.getElem_cons_succ, List.setIfInBounds_toArray, List.set_cons_zero, List.set_cons_succ])
          refine wpAnyH_take (i := 4) (v := .bool true) rfl (by kernel_rfl) (by kernel_rfl) (by kernel_rfl) (fun _ _ _ h => h) (Or.inl ⟨by kernel_rfl, fun _ _ => by go_simp⟩) (by assumption) ?_
          (try simp only [Act.put, List.getElem_toArray, List.getElem_cons_zero, List.getElem_cons_succ, List.setIfInBounds_toArray, List.set_cons_zero, List.set_cons_succ])
          refine wpAnyH_take (i := 5) (v := .slice (some ⟨g, 0, none⟩) xs.length c) rfl (by kernel_rfl) (by kernel_rfl) (by kernel_rfl) (fun _ _ _ h => h) (Or.inl ⟨by kernel_rfl, fun _ _ => by go_simp⟩) (by assumption) ?_
          (try simp only [Act.put, List.getElem_toArray, List.getElem_cons_zero, List.getElem_cons_succ, List.setIfInBounds_toArray, List.set_cons_zero, List.set_cons_succ])
          refine wpAnyH_take (i := 6) (v := .int .i64 k) rfl (by kernel_rfl) (by kernel_rfl) (by kernel_rfl) (fun _ _ _ h => h) (Or.inl ⟨by kernel_rfl, fun _ _ => by go_simp⟩) (by assumption) ?_
          (try simp only [Act.put, List.getElem_toArray, List.getElem_cons_zero, List.getElem_cons_succ, List.setIfInBounds_toArray, List.set_cons_zero, List.set_cons_succ])
          refine wpAnyH_take (i := 7) (v := .pointer (some ⟨g, k * 3, none⟩)) rfl (by kernel_rfl) (by kernel_rfl) (by kernel_rfl) (fun _ _ _ h => h) (Or.inl ⟨by kernel_rfl, fun _ _ => by go_simp⟩) (by assumption) ?_
          (try simp only [Act.put, List.getElem_toArray, List.getElem_cons_zero, List.getElem_cons_succ, List.setIfInBounds_toArray, List.set_cons_zero, List.set_cons_succ])
          refine wpAnyH_take (i := 8) (v := .pointer (some ⟨g, k * 3 + 1, none⟩)) rfl (by kernel_rfl) (by kernel_rfl) (by kernel_rfl) (fun _ _ _ h => h) (Or.inl ⟨by kernel_rfl, fun _ _ => by go_simp⟩) (by assumption) ?_
          (try simp only [Act.put, List.getElem_toArray, List.getElem_cons_zero, List.getElem_cons_succ, List.setIfInBounds_toArray, List.set_cons_zero, List.set_cons_succ])
          refine wpAnyH_take (i := 9) (v := .agg #[.int .i64 y.2.1, .slice B q r]) rfl (by kernel_rfl) (by kernel_rfl) (by kernel_rfl) (fun _ _ _ h => h) (Or.inl ⟨by kernel_rfl, fun wv hSw => by (obtain ⟨hS0, hS1, hS2, hS3⟩ := hSw); go_simp⟩) (by assumption) ?_
          (try simp only [Act.put, List.getElem_toArray, List.getElem_cons_zero, List.getElem_cons_succ, List.setIfInBounds_toArray, List.set_cons_zero, List.set_cons_succ])
          refine wpAnyH_take (i := 10) (v := .pointer (some ⟨w.heap.size, 1, none⟩)) rfl (by kernel_rfl) (by kernel_rfl) (by kernel_rfl) (fun _ _ _ h => h) (Or.inl ⟨by kernel_rfl, fun _ _ => by go_simp⟩) (by assumption) ?_
          (try simp only [Act.put, List.getElem_toArray, List.getElem_cons_zero, List.getElem_cons_succ, List.setIfInBounds_toArray, List.set_cons_zero, List.set_cons_succ])
          refine wpAnyH_take (i := 11) (v := .agg #[.int .i64 e.2.1, .slice V m d]) rfl (by kernel_rfl) (by kernel_rfl) (by kernel_rfl) (fun _ _ _ h => h) (Or.inl ⟨by kernel_rfl, fun wv hSw => by (obtain ⟨hS0, hS1, hS2, hS3⟩ := hSw); go_simp⟩) (by assumption) ?_
          (try simp only [Act.put, List.getElem_toArray, List.getElem_cons_zero, List.getElem_cons_succ, List.setIfInBounds_toArray, List.set_cons_zero, List.set_cons_succ])
          refine wpAnyH_ready (rs := [12]) (by kernel_rfl) (by simp) ?_
          refine AllReadyH.cons rfl (fun K hK => ?_) AllReadyH.nil
          go_simp
          refine (HC _ (Below.drew Tk)).mono ?_
          rintro e' wn ⟨rfl, hbn⟩
          replace Tk := below_next (Below.drew Tk) hbn rfl
          go_wp2_with fail
          refine hK.out _ _ ⟨keepc Tk cc1, keepc Tk cc2, keepc Tk cb1, keepc Tk cb2⟩ (fun hHeld1 => ?_)
          clear hK K hHeld0
          (try simp only [Act.put, List.getElem_toArray, List.getElem_cons_zero, List.getElem_cons_succ, List.setIfInBounds_toArray, List.set_cons_zero, List.set_cons_succ])
          refine wpAnyH_take (i := 13) (v := .bool false) rfl (by kernel_rfl) (by kernel_rfl) (by kernel_rfl) (fun _ _ _ h => h) (Or.inl ⟨by kernel_rfl, fun _ _ => by go_simp⟩) (by assumption) ?_
          (try simp only [Act.put, List.getElem_toArray, List.getElem_cons_zero, List.getElem_cons_succ, List.setIfInBounds_toArray, List.set_cons_zero, List.set_cons_succ])
          refine wpAnyH_take (i := 14) (v := .bool false) rfl (by kernel_rfl) (by kernel_rfl) (by kernel_rfl) (fun _ _ _ h => h) (Or.inl ⟨by kernel_rfl, fun _ _ => by go_simp⟩) (by assumption) ?_
          (try simp only [Act.put, List.getElem_toArray, List.getElem_cons_zero, List.getElem_cons_succ, List.setIfInBounds_toArray, List.set_cons_zero, List.set_cons_succ])
          refine wpAnyH_done (by kernel_rfl) ?_ _
          go_wp2_with fail
          obtain ⟨wz, HWZ⟩ : ∃ wz : World, wz = wn := ⟨_, rfl⟩
          rw [← HWZ] at Tk ⊢
          clear HWZ
          have Tz := below_next hTw Tk rfl
          have hPz := hP.next Tz
          have cz0 := (BP.next (below_next hT Tk rfl)).cell 0
          have cz1 := (BP.next (below_next hT Tk rfl)).cell 1
          have cz2 := (BP.next (below_next hT Tk rfl)).cell 2
          simp at cz0 cz1 cz2
          have hcell := hPz.2.1.cells (g := g) rfl
          have HNEWS := Lib.hid (with_news hPz hk)
          have HOLDS := Lib.hid (with_olds hPz (k := k))
          have HL1 := Lib.hid (with_len hPz hk)
          have HON := Lib.hid (with_one hPz (k := k))
          obtain ⟨ad, HIF, N3⟩ : ∃ ad, Hid ((if c = k then some (⟨g, 0, none⟩ : Addr) else some ⟨g, k * 3, none⟩) = some ad) ∧ Hid (∀ (j : Nat) u, (css.drop k).flatten[j]? = some u → wz.cell? (ad.add j) = some u) := by
            by_cases hq : c = k
            · refine ⟨⟨g, 0, none⟩, if_pos hq, fun j u hu => ?_⟩
              have e0 : css.drop k = [] := List.drop_eq_nil_of_le (by have := hPz.1.l1; have := hgc; omega)
              rw [e0] at hu
              simp at hu
            · exact ⟨_, if_neg hq, HNEWS.out⟩
          clear hcell
          go_wp2_with fail
          go_region_law (first
            | (refine step_appN _ rfl (.tmp 42) (.tmp 45) 24 64 rfl (.agg #[.string ⟨#[]⟩, .int .i64 0, .slice none 0 0]) 48 Try.underlying24 info_entry3 rfl (by decide) wz.heap.size 1 1 _ [.string e.1, .int .i64 e.2.1, .slice V m d] (by rfl) (by exact World.ownsRow_lit wz #[.string e.1, .int .i64 e.2.1, .slice V m d] 1 (Nat.le_refl _) (by decide) rfl) ad (xs.length - k) (c - k) (css.drop k).flatten (by show Value.slice (if c = k then _ else _) _ _ = _; rw [HIF.out]) HL1.out (fun j u hu => by first | exact keepc (below_box wz _) (N3.out j u hu) | exact keepc (Below.drew (below_box wz _)) (N3.out j u hu)) HON.out (by omega) (by simp) ?_; intro A5 c5 w5 hown5 hg5 hb5; have T5 : Below wz.heap.size wz w5 := (by first | exact (below_box wz _).trans hb5 | exact (Below.drew (below_box wz _)).trans hb5)))
          obtain ⟨g5, rfl, hg5b, hnc5⟩ := own_formE hown5 (by omega)
          have hc5 := hown5.cells (g := g5) rfl
          have T5w := below_next Tz T5 rfl
          have hOld5 : ∀ j v, (css.take k).flatten[j]? = some v → w5.cell? ((⟨g, 0, none⟩ : Addr).add j) = some v := fun j v hv => keepc T5 (HOLDS.out j v hv)
          have HO5 := Lib.hid hOld5
          have HC5 := Lib.hid hc5
          have HLT := Lib.hid (with_lent hPz hk)
          clear hOld5 hc5
          go_wp2_with (at_builtin; refine app_new w5 rfl _ _ 24 64 rfl (.agg #[.string ⟨#[]⟩, .int .i64 0, .slice none 0 0]) 48 3 Try.underlying24 info_entry3 rfl (by decide) (some ⟨g, 0, none⟩) k k (css.take k).flatten rfl HLT.out (.inr ⟨_, rfl, HO5.out⟩) ⟨g5, 0, none⟩ (1 + (xs.length - k)) c5 ([.string e.1, .int .i64 e.2.1, .slice V m d] ++ (css.drop k).flatten) rfl (by rw [List.length_append, HL1.out]; simp; omega) HC5.out (by omega) (by omega) (by omega) ?_; intro A6 c6 w6 hown6 hb6)
          all_goals
            have T6w := below_next T5w hb6 rfl
            have hfin := hP.ins (v' := .slice A6 (k + (1 + (xs.length - k))) c6) ho hbk hb hdis hk hlo T6w (by rw [with_flat, show xs.length + 1 = k + (1 + (xs.length - k)) from by omega]; exact own_mono hown6 T5w.size)
            have HF := Lib.hid hfin
            clear hfin
            go_ret2
            refine ⟨_, _, _, _, _, by rw [HDU.out]; rfl, by rw [HDU.out, if_neg (by decide), insM_at HPO.out]; exact HF.out, T6w, fun b hb' => ?_⟩
            rcases List.mem_append.1 ((flat_ins bls bk k).mem_iff.1 hb') with h4 | h4
            · exact .inr h4
            · exact .inl h4
        · have hc0 : (cv == 0) = true := by rw [beq_iff_eq]; exact HZ.out.2 HDV.out
          have hP1 := hP.next hTw
          refine wp_region_held_drew (S := fun w' => w'.cell? ⟨g, k * 3 + 1, none⟩ = some (.int .i64 y.2.1) ∧ w'.cell? ⟨g, k * 3 + 2, none⟩ = some (.slice B q r) ∧ w'.cell? ⟨w.heap.size, 1, none⟩ = some (.int .i64 e.2.1) ∧ w'.cell? ⟨w.heap.size, 2, none⟩ = some (.slice V m d)) (by kernel_rfl) ⟨cc1, cc2, cb1, cb2⟩ (fun hHeld0 => ?_)
          refine wpAnyH_take (i := 0) (v := .int .i64 k) rfl (by kernel_rfl) (by kernel_rfl) (by kernel_rfl) (fun _ _ _ h => h) (Or.inl ⟨by kernel_rfl, fun _ _ => by go_simp⟩) (by assumption) ?_
          (try simp only [Act.put, List.getElem_toArray, List.getElem_cons_zero, List.getElem_cons_succ, List.setIfInBounds_toArray, List.set_cons_zero, List.set_cons_succ])
          refine wpAnyH_take (i := 1) (v := .slice (some ⟨g, 0, none⟩) xs.length c) rfl (by kernel_rfl) (by kernel_rfl) (by kernel_rfl) (fun _ _ _ h => h) (Or.inl ⟨by kernel_rfl, fun _ _ => by go_simp⟩) (by assumption) ?_
          (try simp only [Act.put, List.getElem_toArray, List.getElem_cons_zero, List.getElem_cons_succ, List.setIfInBounds_toArray, List.set_cons_zero, List.set_cons_succ])
          refine wpAnyH_take (i := 2) (v := .int .i64 xs.length) rfl (by kernel_rfl) (by kernel_rfl) (by kernel_rfl) (fun _ _ _ h => h) (Or.inl ⟨by kernel_rfl, fun _ _ => by go_simp⟩) (by assumption) ?_
          (try simp only [Act.put, List.getElem_toArray, List.getElem_cons_zero, List.getElem_cons_succ, List.setIfInBounds_toArray, List.set_cons_zero, List.set_cons_succ])
          refine wpAnyH_take (i := 3) (v := .bool true) rfl (by kernel_rfl) (by kernel_rfl) (by kernel_rfl) (fun _ _ _ h => h) (Or.inl ⟨by kernel_rfl, fun _ _ => by go_simp⟩) (by assumption) ?_
          (try simp only [Act.put, List.getElem_toArray, List.getElem_cons_zero, List.getElem_cons_succ, List.setIfInBounds_toArray, List.set_cons_zero, List.set_cons_succ])
          refine wpAnyH_take (i := 4) (v := .bool true) rfl (by kernel_rfl) (by kernel_rfl) (by kernel_rfl) (fun _ _ _ h => h) (Or.inl ⟨by kernel_rfl, fun _ _ => by go_simp⟩) (by assumption) ?_
          (try simp only [Act.put, List.getElem_toArray, List.getElem_cons_zero, List.getElem_cons_succ, List.setIfInBounds_toArray, List.set_cons_zero, List.set_cons_succ])
          refine wpAnyH_take (i := 5) (v := .slice (some ⟨g, 0, none⟩) xs.length c) rfl (by kernel_rfl) (by kernel_rfl) (by kernel_rfl) (fun _ _ _ h => h) (Or.inl ⟨by kernel_rfl, fun _ _ => by go_simp⟩) (by assumption) ?_
          (try simp only [Act.put, List.getElem_toArray, List.getElem_cons_zero, List.getElem_cons_succ, List.setIfInBounds_toArray, List.set_cons_zero, List.set_cons_succ])
          refine wpAnyH_take (i := 6) (v := .int .i64 k) rfl (by kernel_rfl) (by kernel_rfl) (by kernel_rfl) (fun _ _ _ h => h) (Or.inl ⟨by kernel_rfl, fun _ _ => by go_simp⟩) (by assumption) ?_
          (try simp only [Act.put, List.getElem_toArray, List.getElem_cons_zero, List.getElem_cons_succ, List.setIfInBounds_toArray, List.set_cons_zero, List.set_cons_succ])
          refine wpAnyH_take (i := 7) (v := .pointer (some ⟨g, k * 3, none⟩)) rfl (by kernel_rfl) (by kernel_rfl) (by kernel_rfl) (fun _ _ _ h => h) (Or.inl ⟨by kernel_rfl, fun _ _ => by go_simp⟩) (by assumption) ?_
          (try simp only [Act.put, List.getElem_toArray, List.getElem_cons_zero, List.getElem_cons_succ, List.setIfInBounds_toArray, List.set_cons_zero, List.set_cons_succ])
          refine wpAnyH_take (i := 8) (v := .pointer (some ⟨g, k * 3 + 1, none⟩)) rfl (by kernel_rfl) (by kernel_rfl) (by kernel_rfl) (fun _ _ _ h => h) (Or.inl ⟨by kernel_rfl, fun _ _ => by go_simp⟩) (by assumption) ?_
          (try simp only [Act.put, List.getElem_toArray, List.getElem_cons_zero, List.getElem_cons_succ, List.setIfInBounds_toArray, List.set_cons_zero, List.set_cons_succ])
          refine wpAnyH_take (i := 9) (v := .agg #[.int .i64 y.2.1, .slice B q r]) rfl (by kernel_rfl) (by kernel_rfl) (by kernel_rfl) (fun _ _ _ h => h) (Or.inl ⟨by kernel_rfl, fun wv hSw => by (obtain ⟨hS0, hS1, hS2, hS3⟩ := hSw); go_simp⟩) (by assumption) ?_
          (try simp only [Act.put, List.getElem_toArray, List.getElem_cons_zero, List.getElem_cons_succ, List.setIfInBounds_toArray, List.set_cons_zero, List.set_cons_succ])
          refine wpAnyH_take (i := 10) (v := .pointer (some ⟨w.heap.size, 1, none⟩)) rfl (by kernel_rfl) (by kernel_rfl) (by kernel_rfl) (fun _ _ _ h => h) (Or.inl ⟨by kernel_rfl, fun _ _ => by go_simp⟩) (by assumption) ?_
          (try simp only [Act.put, List.getElem_toArray, List.getElem_cons_zero, List.getElem_cons_succ, List.setIfInBounds_toArray, List.set_cons_zero, List.set_cons_succ])
          refine wpAnyH_take (i := 11) (v := .agg #[.int .i64 e.2.1, .slice V m d]) rfl (by kernel_rfl) (by kernel_rfl) (by kernel_rfl) (fun _ _ _ h => h) (Or.inl ⟨by kernel_rfl, fun wv hSw => by (obtain ⟨hS0, hS1, hS2, hS3⟩ := hSw); go_simp⟩) (by assumption) ?_
          (try simp only [Act.put, List.getElem_toArray, List.getElem_cons_zero, List.getElem_cons_succ, List.setIfInBounds_toArray, List.set_cons_zero, List.set_cons_succ])
          refine wpAnyH_ready (rs := [12]) (by kernel_rfl) (by simp) ?_
          refine AllReadyH.cons rfl (fun K hK => ?_) AllReadyH.nil
          go_simp
          refine (HC _ (Below.drew Tk)).mono ?_
          rintro e' wn ⟨rfl, hbn⟩
          replace Tk := below_next (Below.drew Tk) hbn rfl
          go_wp2_with fail
          refine hK.out _ _ ⟨keepc Tk cc1, keepc Tk cc2, keepc Tk cb1, keepc Tk cb2⟩ (fun hHeld1 => ?_)
          clear hK K hHeld0
          (try simp only [Act.put, List.getElem_toArray, List.getElem_cons_zero, List.getElem_cons_succ, List.setIfInBounds_toArray, List.set_cons_zero, List.set_cons_succ])
          refine wpAnyH_take (i := 13) (v := .bool true) rfl (by kernel_rfl) (by kernel_rfl) (by kernel_rfl) (fun _ _ _ h => h) (Or.inl ⟨by kernel_rfl, fun _ _ => by go_simp⟩) (by assumption) ?_
          (try simp only [Act.put, List.getElem_toArray, List.getElem_cons_zero, List.getElem_cons_succ, List.setIfInBounds_toArray, List.set_cons_zero, List.set_cons_succ])
          refine wpAnyH_take (i := 14) (v := .bool true) rfl (by kernel_rfl) (by kernel_rfl) (by kernel_rfl) (fun _ _ _ h => h) (Or.inl ⟨by kernel_rfl, fun _ _ => by go_simp⟩) (by assumption) ?_
          (try simp only [Act.put, List.getElem_toArray, List.getElem_cons_zero, List.getElem_cons_succ, List.setIfInBounds_toArray, List.set_cons_zero, List.set_cons_succ])
          refine wpAnyH_done (by kernel_rfl) ?_ _
          have hPf := hP1.next Tk
          go_wp2_with fail
          go_ret2
          refine ⟨_, _, _, css, bls, by rw [HDU.out]; rfl, by rw [HDU.out, if_pos rfl]; exact hPf, below_next hTw Tk rfl, fun b hb' => .inl hb'⟩
    · have hk0 : (0 : Int) ≤ (k : Int) := by omega
      have hk1 : ¬ (k : Int) < (xs.length : Int) := by omega
      have hk3 : (k : Int) ≤ (xs.length : Int) := by omega
      have HPO : Hid (posL e.2 xs = k) := HPA.out.done hlt
      have HDU : Hid (dupB xs e = false) := dup_end HPO.out hlt
      go_wp2_with fail
      refine wp_region_held_drew (S := fun w' => w'.cell? ⟨w.heap.size, 1, none⟩ = some (.int .i64 e.2.1)) (by kernel_rfl) cb1 (fun hHeld0 => ?_)
      refine wpAnyH_take (i := 0) (v := .int .i64 k) rfl (by kernel_rfl) (by kernel_rfl) (by kernel_rfl) (fun _ _ _ h => h) (Or.inl ⟨by kernel_rfl, fun _ _ => by go_simp⟩) (by assumption) ?_
      (try simp only [Act.put, List.getElem_toArray, List.getElem_cons_zero, List.getElem_cons_succ, List.setIfInBounds_toArray, List.set_cons_zero, List.set_cons_succ])
      refine wpAnyH_take (i := 1) (v := .slice (some ⟨g, 0, none⟩) xs.length c) rfl (by kernel_rfl) (by kernel_rfl) (by kernel_rfl) (fun _ _ _ h => h) (Or.inl ⟨by kernel_rfl, fun _ _ => by go_simp⟩) (by assumption) ?_
      (try simp only [Act.put, List.getElem_toArray, List.getElem_cons_zero, List.getElem_cons_succ, List.setIfInBounds_toArray, List.set_cons_zero, List.set_cons_succ])
      refine wpAnyH_take (i := 2) (v := .int .i64 xs.length) rfl (by kernel_rfl) (by kernel_rfl) (by kernel_rfl) (fun _ _ _ h => h) (Or.inl ⟨by kernel_rfl, fun _ _ => by go_simp⟩) (by assumption) ?_
      (try simp only [Act.put, List.getElem_toArray, List.getElem_cons_zero, List.getElem_cons_succ, List.setIfInBounds_toArray, List.set_cons_zero, List.set_cons_succ])
      refine wpAnyH_take (i := 3) (v := .bool false) rfl (by kernel_rfl) (by kernel_rfl) (by kernel_rfl) (fun _ _ _ h => h) (Or.inl ⟨by kernel_rfl, fun _ _ => by go_simp⟩) (by assumption) ?_
      (try simp only [Act.put, List.getElem_toArray, List.getElem_cons_zero, List.getElem_cons_succ, List.setIfInBounds_toArray, List.set_cons_zero, List.set_cons_succ])
      refine wpAnyH_take (i := 4) (v := .bool false) rfl (by kernel_rfl) (by kernel_rfl) (by kernel_rfl) (fun _ _ _ h => h) (Or.inl ⟨by kernel_rfl, fun _ _ => by go_simp⟩) (by assumption) ?_
      (try simp only [Act.put, List.getElem_toArray, List.getElem_cons_zero, List.getElem_cons_succ, List.setIfInBounds_toArray, List.set_cons_zero, List.set_cons_succ])
      refine wpAnyH_take (i := 5) (v := undef) rfl (by kernel_rfl) (by kernel_rfl) (by kernel_rfl) (fun _ _ _ h => h) (Or.inr ⟨by kernel_rfl, rfl⟩) (by assumption) ?_
      (try simp only [Act.put, List.getElem_toArray, List.getElem_cons_zero, List.getElem_cons_succ, List.setIfInBounds_toArray, List.set_cons_zero, List.set_cons_succ])
      refine wpAnyH_take (i := 6) (v := undef) rfl (by kernel_rfl) (by kernel_rfl) (by kernel_rfl) (fun _ _ _ h => h) (Or.inr ⟨by kernel_rfl, rfl⟩) (by assumption) ?_
      (try simp only [Act.put, List.getElem_toArray, List.getElem_cons_zero, List.getElem_cons_succ, List.setIfInBounds_toArray, List.set_cons_zero, List.set_cons_succ])
      refine wpAnyH_take (i := 7) (v := undef) rfl (by kernel_rfl) (by kernel_rfl) (by kernel_rfl) (fun _ _ _ h => h) (Or.inr ⟨by kernel_rfl, rfl⟩) (by assumption) ?_
      (try simp only [Act.put, List.getElem_toArray, List.getElem_cons_zero, List.getElem_cons_succ, List.setIfInBounds_toArray, List.set_cons_zero, List.set_cons_succ])
      refine wpAnyH_take (i := 8) (v := undef) rfl (by kernel_rfl) (by kernel_rfl) (by kernel_rfl) (fun _ _ _ h => h) (Or.inr ⟨by kernel_rfl, rfl⟩) (by assumption) ?_
      (try simp only [Act.put, List.getElem_toArray, List.getElem_cons_zero, List.getElem_cons_succ, List.setIfInBounds_toArray, List.set_cons_zero, List.set_cons_succ])
      refine wpAnyH_take (i := 9) (v := undef) rfl (by kernel_rfl) (by kernel_rfl) (by kernel_rfl) (fun _ _ _ h => h) (Or.inr ⟨by kernel_rfl, rfl⟩) (by assumption) ?_
      (try simp only [Act.put, List.getElem_toArray, List.getElem_cons_zero, List.getElem_cons_succ, List.setIfInBounds_toArray, List.set_cons_zero, List.set_cons_succ])
      refine wpAnyH_take (i := 10) (v := undef) rfl (by kernel_rfl) (by kernel_rfl) (by kernel_rfl) (fun _ _ _ h => h) (Or.inr ⟨by kernel_rfl, rfl⟩) (by assumption) ?_
      (try simp only [Act.put, List.getElem_toArray, List.getElem_cons_zero, List.getElem_cons_succ, List.setIfInBounds_toArray, List.set_cons_zero, List.set_cons_succ])
      refine wpAnyH_take (i := 11) (v := undef) rfl (by kernel_rfl) (by kernel_rfl) (by kernel_rfl) (fun _ _ _ h => h) (Or.inr ⟨by kernel_rfl, rfl⟩) (by assumption) ?_
      (try simp only [Act.put, List.getElem_toArray, List.getElem_cons_zero, List.getElem_cons_succ, List.setIfInBounds_toArray, List.set_cons_zero, List.set_cons_succ])
      refine wpAnyH_take (i := 12) (v := undef) rfl (by kernel_rfl) (by kernel_rfl) (by kernel_rfl) (fun _ _ _ h => h) (Or.inr ⟨by kernel_rfl, rfl⟩) (by assumption) ?_
      (try simp only [Act.put, List.getElem_toArray, List.getElem_cons_zero, List.getElem_cons_succ, List.setIfInBounds_toArray, List.set_cons_zero, List.set_cons_succ])
      refine wpAnyH_take (i := 13) (v := undef) rfl (by kernel_rfl) (by kernel_rfl) (by kernel_rfl) (fun _ _ _ h => h) (Or.inr ⟨by kernel_rfl, rfl⟩) (by assumption) ?_
      (try simp only [Act.put, List.getElem_toArray, List.getElem_cons_zero, List.getElem_cons_succ, List.setIfInBounds_toArray, List.set_cons_zero, List.set_cons_succ])
      refine wpAnyH_take (i := 14) (v := .bool false) rfl (by kernel_rfl) (by kernel_rfl) (by kernel_rfl) (fun _ _ _ h => h) (Or.inl ⟨by kernel_rfl, fun _ _ => by go_simp⟩) (by assumption) ?_
      (try simp only [Act.put, List.getElem_toArray, List.getElem_cons_zero, List.getElem_cons_succ, List.setIfInBounds_toArray, List.set_cons_zero, List.set_cons_succ])
      refine wpAnyH_done (by kernel_rfl) ?_ _
      go_wp2_with fail
      refine wp_region_held_drew (S := fun w' => w'.cell? ⟨w.heap.size, 1, none⟩ = some (.int .i64 e.2.1)) (by kernel_rfl) cb1 (fun hHeld0 => ?_)
      refine wpAnyH_take (i := 0) (v := .int .i64 k) rfl (by kernel_rfl) (by kernel_rfl) (by kernel_rfl) (fun _ _ _ h => h) (Or.inl ⟨by kernel_rfl, fun _ _ => by go_simp⟩) (by assumption) ?_
      (try simp only [Act.put, List.getElem_toArray, List.getElem_cons_zero, List.getElem_cons_succ, List.setIfInBounds_toArray, List.set_cons_zero, List.set_cons_succ])
      refine wpAnyH_take (i := 1) (v := .slice (some ⟨g, 0, none⟩) xs.length c) rfl (by kernel_rfl) (by kernel_rfl) (by kernel_rfl) (fun _ _ _ h => h) (Or.inl ⟨by kernel_rfl, fun _ _ => by go_simp⟩) (by assumption) ?_
      (try simp only [Act.put, List.getElem_toArray, List.getElem_cons_zero, List.getElem_cons_succ, List.setIfInBounds_toArray, List.set_cons_zero, List.set_cons_succ])
      refine wpAnyH_take (i := 2) (v := .int .i64 xs.length) rfl (by kernel_rfl) (by kernel_rfl) (by kernel_rfl) (fun _ _ _ h => h) (Or.inl ⟨by kernel_rfl, fun _ _ => by go_simp⟩) (by assumption) ?_
      (try simp only [Act.put, List.getElem_toArray, List.getElem_cons_zero, List.getElem_cons_succ, List.setIfInBounds_toArray, List.set_cons_zero, List.set_cons_succ])
      refine wpAnyH_take (i := 3) (v := .bool false) rfl (by kernel_rfl) (by kernel_rfl) (by kernel_rfl) (fun _ _ _ h => h) (Or.inl ⟨by kernel_rfl, fun _ _ => by go_simp⟩) (by assumption) ?_
      (try simp only [Act.put, List.getElem_toArray, List.getElem_cons_zero, List.getElem_cons_succ, List.setIfInBounds_toArray, List.set_cons_zero, List.set_cons_succ])
      refine wpAnyH_take (i := 4) (v := .bool false) rfl (by kernel_rfl) (by kernel_rfl) (by kernel_rfl) (fun _ _ _ h => h) (Or.inl ⟨by kernel_rfl, fun _ _ => by go_simp⟩) (by assumption) ?_
      (try simp only [Act.put, List.getElem_toArray, List.getElem_cons_zero, List.getElem_cons_succ, List.setIfInBounds_toArray, List.set_cons_zero, List.set_cons_succ])
      refine wpAnyH_take (i := 5) (v := undef) rfl (by kernel_rfl) (by kernel_rfl) (by kernel_rfl) (fun _ _ _ h => h) (Or.inr ⟨by kernel_rfl, rfl⟩) (by assumption) ?_
      (try simp only [Act.put, List.getElem_toArray, List.getElem_cons_zero, List.getElem_cons_succ, List.setIfInBounds_toArray, List.set_cons_zero, List.set_cons_succ])
      refine wpAnyH_take (i := 6) (v := undef) rfl (by kernel_rfl) (by kernel_rfl) (by kernel_rfl) (fun _ _ _ h => h) (Or.inr ⟨by kernel_rfl, rfl⟩) (by assumption) ?_
      (try simp only [Act.put, List.getElem_toArray, List.getElem_cons_zero, List.getElem_cons_succ, List.setIfInBounds_toArray, List.set_cons_zero, List.set_cons_succ])
      refine wpAnyH_take (i := 7) (v := undef) rfl (by kernel_rfl) (by kernel_rfl) (by kernel_rfl) (fun _ _ _ h => h) (Or.inr ⟨by kernel_rfl, rfl⟩) (by assumption) ?_
      (try simp only [Act.put, List.getElem_toArray, List.getElem_cons_zero, List.getElem_cons_succ, List.setIfInBounds_toArray, List.set_cons_zero, List.set_cons_succ])
      refine wpAnyH_take (i := 8) (v := undef) rfl (by kernel_rfl) (by kernel_rfl) (by kernel_rfl) (fun _ _ _ h => h) (Or.inr ⟨by kernel_rfl, rfl⟩) (by assumption) ?_
      (try simp only [Act.put, List.getElem_toArray, List.getElem_cons_zero, List.getElem_cons_succ, List.setIfInBounds_toArray, List.set_cons_zero, List.set_cons_succ])
      refine wpAnyH_take (i := 9) (v := undef) rfl (by kernel_rfl) (by kernel_rfl) (by kernel_rfl) (fun _ _ _ h => h) (Or.inr ⟨by kernel_rfl, rfl⟩) (by assumption) ?_
      (try simp only [Act.put, List.getElem_toArray, List.getElem_cons_zero, List.getElem_cons_succ, List.setIfInBounds_toArray, List.set_cons_zero, List.set_cons_succ])
      refine wpAnyH_take (i := 10) (v := undef) rfl (by kernel_rfl) (by kernel_rfl) (by kernel_rfl) (fun _ _ _ h => h) (Or.inr ⟨by kernel_rfl, rfl⟩) (by assumption) ?_
      (try simp only [Act.put, List.getElem_toArray, List.getElem_cons_zero, List.getElem_cons_succ, List.setIfInBounds_toArray, List.set_cons_zero, List.set_cons_succ])
      refine wpAnyH_take (i := 11) (v := undef) rfl (by kernel_rfl) (by kernel_rfl) (by kernel_rfl) (fun _ _ _ h => h) (Or.inr ⟨by kernel_rfl, rfl⟩) (by assumption) ?_
      (try simp only [Act.put, List.getElem_toArray, List.getElem_cons_zero, List.getElem_cons_succ, List.setIfInBounds_toArray, List.set_cons_zero, List.set_cons_succ])
      refine wpAnyH_take (i := 12) (v := undef) rfl (by kernel_rfl) (by kernel_rfl) (by kernel_rfl) (fun _ _ _ h => h) (Or.inr ⟨by kernel_rfl, rfl⟩) (by assumption) ?_
      (try simp only [Act.put, List.getElem_toArray, List.getElem_cons_zero, List.getElem_cons_succ, List.setIfInBounds_toArray, List.set_cons_zero, List.set_cons_succ])
      refine wpAnyH_take (i := 13) (v := undef) rfl (by kernel_rfl) (by kernel_rfl) (by kernel_rfl) (fun _ _ _ h => h) (Or.inr ⟨by kernel_rfl, rfl⟩) (by assumption) ?_
      (try simp only [Act.put, List.getElem_toArray, List.getElem_cons_zero, List.getElem_cons_succ, List.setIfInBounds_toArray, List.set_cons_zero, List.set_cons_succ])
      refine wpAnyH_take (i := 14) (v := .bool false) rfl (by kernel_rfl) (by kernel_rfl) (by kernel_rfl) (fun _ _ _ h => h) (Or.inl ⟨by kernel_rfl, fun _ _ => by go_simp⟩) (by assumption) ?_
      (try simp only [Act.put, List.getElem_toArray, List.getElem_cons_zero, List.getElem_cons_succ, List.setIfInBounds_toArray, List.set_cons_zero, List.set_cons_succ])
      refine wpAnyH_done (by kernel_rfl) ?_ _
      go_wp2_with fail
      replace Tk := Below.drew (Below.drew Tk)
      obtain ⟨wz, HWZ⟩ : ∃ wz : World, wz = wr.drew.drew := ⟨_, rfl⟩
      rw [← HWZ] at Tk ⊢
      clear HWZ
      have Tz := below_next hTw Tk rfl
      have hPz := hP.next Tz
      have cz0 := (BP.next (below_next hT Tk rfl)).cell 0
      have cz1 := (BP.next (below_next hT Tk rfl)).cell 1
      have cz2 := (BP.next (below_next hT Tk rfl)).cell 2
      simp at cz0 cz1 cz2
      have hcell := hPz.2.1.cells (g := g) rfl
      have HNEWS := Lib.hid (with_news hPz hk)
      have HOLDS := Lib.hid (with_olds hPz (k := k))
      have HL1 := Lib.hid (with_len hPz hk)
      have HON := Lib.hid (with_one hPz (k := k))
      obtain ⟨ad, HIF, N3⟩ : ∃ ad, Hid ((if c = k then some (⟨g, 0, none⟩ : Addr) else some ⟨g, k * 3, none⟩) = some ad) ∧ Hid (∀ (j : Nat) u, (css.drop k).flatten[j]? = some u → wz.cell? (ad.add j) = some u) := by
        by_cases hq : c = k
        · refine ⟨⟨g, 0, none⟩, if_pos hq, fun j u hu => ?_⟩
          have e0 : css.drop k = [] := List.drop_eq_nil_of_le (by have := hPz.1.l1; have := hgc; omega)
          rw [e0] at hu
          simp at hu
        · exact ⟨_, if_neg hq, HNEWS.out⟩
      clear hcell
      go_wp2_with fail
      go_region_law (first
        | (refine step_appN _ rfl (.tmp 42) (.tmp 45) 24 64 rfl (.agg #[.string ⟨#[]⟩, .int .i64 0, .slice none 0 0]) 48 Try.underlying24 info_entry3 rfl (by decide) wz.heap.size 1 1 _ [.string e.1, .int .i64 e.2.1, .slice V m d] (by rfl) (by exact World.ownsRow_lit wz #[.string e.1, .int .i64 e.2.1, .slice V m d] 1 (Nat.le_refl _) (by decide) rfl) ad (xs.length - k) (c - k) (css.drop k).flatten (by show Value.slice (if c = k then _ else _) _ _ = _; rw [HIF.out]) HL1.out (fun j u hu => by first | exact keepc (below_box wz _) (N3.out j u hu) | exact keepc (Below.drew (below_box wz _)) (N3.out j u hu)) HON.out (by omega) (by simp) ?_; intro A5 c5 w5 hown5 hg5 hb5; have T5 : Below wz.heap.size wz w5 := (by first | exact (below_box wz _).trans hb5 | exact (Below.drew (below_box wz _)).trans hb5)))
      obtain ⟨g5, rfl, hg5b, hnc5⟩ := own_formE hown5 (by omega)
      have hc5 := hown5.cells (g := g5) rfl
      have T5w := below_next Tz T5 rfl
      have hOld5 : ∀ j v, (css.take k).flatten[j]? = some v → w5.cell? ((⟨g, 0, none⟩ : Addr).add j) = some v := fun j v hv => keepc T5 (HOLDS.out j v hv)
      have HO5 := Lib.hid hOld5
      have HC5 := Lib.hid hc5
      have HLT := Lib.hid (with_lent hPz hk)
      clear hOld5 hc5
      go_wp2_with (at_builtin; refine app_new w5 rfl _ _ 24 64 rfl (.agg #[.string ⟨#[]⟩, .int .i64 0, .slice none 0 0]) 48 3 Try.underlying24 info_entry3 rfl (by decide) (some ⟨g, 0, none⟩) k k (css.take k).flatten rfl HLT.out (.inr ⟨_, rfl, HO5.out⟩) ⟨g5, 0, none⟩ (1 + (xs.length - k)) c5 ([.string e.1, .int .i64 e.2.1, .slice V m d] ++ (css.drop k).flatten) rfl (by rw [List.length_append, HL1.out]; simp; omega) HC5.out (by omega) (by omega) (by omega) ?_; intro A6 c6 w6 hown6 hb6)
      all_goals
        have T6w := below_next T5w hb6 rfl
        have hfin := hP.ins (v' := .slice A6 (k + (1 + (xs.length - k))) c6) ho hbk hb hdis hk hlo T6w (by rw [with_flat, show xs.length + 1 = k + (1 + (xs.length - k)) from by omega]; exact own_mono hown6 T5w.size)
        have HF := Lib.hid hfin
        clear hfin
        go_ret2
        refine ⟨_, _, _, _, _, by rw [HDU.out]; rfl, by rw [HDU.out, if_neg (by decide), insM_at HPO.out]; exact HF.out, T6w, fun b hb' => ?_⟩
        rcases List.mem_append.1 ((flat_ins bls bk k).mem_iff.1 hb') with h4 | h4
        · exact .inr h4
        · exact .inl h4
end Go.Proofs.Ytbpdbimdefdefaa
