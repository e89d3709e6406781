
/- Walks: one entry more in a catalogue (spec.l31Put). Printed by genput.py. -/
import Derived.Test.YtbpdbimdefdefaaAddP
namespace Go.Proofs.Ytbpdbimdefdefaa
open Go.RowKit

theorem appN {P : Program} (w : World) {ops : Array Oper} {rest : List Oper} {o : Oper} {a : Act} {Q : Exit → Act → World → Prop} (hgd : o.guard = none) (s x : Operand) (t e : TypeId)
    (ho : o.op = .call { callee := .builtin .append, args := #[s, x], argTypes := #[t, t] }) (z : Value) (bytes : Nat)
    (ht : P.underlying t = some (.slice e)) (hi : (P.info? e).map (fun i => (i.zero, i.size, i.bytes)) = some (some z, 3, bytes)) (hzs : z.cells.size = 3) (hbb : bytes ≤ 64)
    (base n c : Nat) (A : Option Addr) (xs : List Value) (hs : a.eval s = .slice A n c) (hown : w.ownsRow base e 3 (.slice A n c) n xs)
    (ad : Addr) (m c2 : Nat) (news : List Value) (hx : a.eval x = .slice (some ad) m c2) (hl : news.length = m * 3) (hnews : ∀ j u, news[j]? = some u → w.cell? (ad.add j) = some u) (h1 : ∀ u ∈ news, u.oneCell' = true)
    (hn : n + m ≤ 1048576) (hbase : base ≤ w.heap.size)
    (hK : ∀ A' c' w', w'.ownsRow base e 3 (.slice A' (n + m) c') (n + m) (xs ++ news) → w.grownBy w' (Value.slice A n c).ownBlock → Below base w w' → wpList P ops Q rest (a.put o.dst (.slice A' (n + m) c')) w') :
    wpList P ops Q (o :: rest) a w := by
  obtain ⟨i, hi, hz, hsize, hby⟩ := info_parts hi
  have hbound : (n + m) * bytes ≤ 140737488355328 := Nat.le_trans (Nat.mul_le_mul_left (n + m) hbb) (by omega)
  refine wpList_plain hgd fun _ hK' => ?_
  refine wp_append_at w s x t ho base e i z 3 bytes ht hi hz hsize hby hzs (by omega) (.slice A n c) n xs hs hown ad m c2 news hx hl hnews h1 (by unfold maxLen; omega) hbound hbase fun v' w' h2 h3 _ => ?_
  obtain ⟨A', c', rfl⟩ := own_slice h2
  refine hK' _ _ (hK A' c' w' h2 h3 ?_)
  exact own_grown_below (Below.refl _ _) h3 hbase fun k hk => (hown.lt k hk).1
theorem new_cells (w : World) (cs : Array Value) (t : TypeId) : ∀ (j : Nat) u, cs.toList[j]? = some u → (w.alloc (.cells cs t)).cell? ((⟨w.heap.size, 0, none⟩ : Addr).add j) = some u := fun j u hu => by
  have h := (Blk.new w t cs).cell j
  have e : (⟨w.heap.size, 0, none⟩ : Addr).add j = ⟨w.heap.size, j, none⟩ := by
    unfold Addr.add
    split
    · rename_i h0; subst h0; rfl
    · simp
  rw [e, h]
  simpa using hu
theorem put_read {w w6 : World} {base k c6 : Nat} {A6 : Option Addr} {css : List (List Value)} {xs : List EntryM} {e : EntryM} {ce : List Value} (hcl : css.length = xs.length) (hk : k ≤ xs.length) (hall : ∀ c ∈ css, c.length = 3)
    (hrd : ∀ (k : Nat) cs x, css[k]? = some cs → xs[k]? = some x → shEntry.rd w cs x) (hre : shEntry.rd w ce e) (hT : Below w.heap.size w w6) (hp : posL e.2 xs = k)
    (hown : w6.ownsRow base 64 3 (.slice A6 (insM xs e).length c6) (insM xs e).length ((css.take k).flatten ++ ce ++ (css.drop k).flatten)) :
    RdN shEntry.m shEntry.rd w6 A6 (insM xs e).length (insM xs e) := by
  have ef : (css.take k).flatten ++ ce ++ (css.drop k).flatten = (css.take k ++ ce :: css.drop k).flatten := by rw [with_flat, List.append_assoc]
  rw [ef] at hown
  have hce : ce.length = 3 := shEntry.rd_len hre
  refine rdE_of_rows hown (fun c hc => ?_) ?_ rfl fun j cs x h1 h2 => ?_
  · rcases List.mem_append.1 hc with hc | hc
    · exact hall c (List.mem_of_mem_take hc)
    · rcases List.mem_cons.1 hc with rfl | hc
      · exact hce
      · exact hall c (List.mem_of_mem_drop hc)
  · rw [insM_len]; simp; omega
  · rw [insM_at hp] at h2
    rw [ins_get (by omega)] at h1 h2
    by_cases q1 : j < k
    · rw [if_pos q1] at h1 h2
      exact shEntry.stab (hrd j cs x h1 h2) hT.block
    · rw [if_neg q1] at h1 h2
      by_cases q2 : j = k
      · rw [if_pos q2] at h1 h2
        injection h1 with h1
        injection h2 with h2
        subst h1
        subst h2
        exact shEntry.stab hre hT.block
      · rw [if_neg q2] at h1 h2
        exact shEntry.stab (hrd _ cs x h1 h2) hT.block
def PutR (w : World) (ys : List EntryM) (e : Ending) (w' : World) : Prop :=
  ∃ g c, e = .returned (.tuple #[.slice (some ⟨g, 0, none⟩) ys.length c, .bool (catB ys)]) ∧ ys.length ≤ c ∧ RdN shEntry.m shEntry.rd w' (some ⟨g, 0, none⟩) ys.length ys ∧ Below w.heap.size w w'
set_option linter.unusedVariables false in
set_option linter.unusedSimpArgs false in
set_option maxRecDepth 100000 in
set_option maxHeartbeats 16000000 in
theorem l31Put_any (b o c : Nat) (xs : List EntryM) (e : EntryM) (V : Option Addr) (m d : Nat) (w : World)
    (h : RdN shEntry.m shEntry.rd w (some ⟨b, o, none⟩) xs.length xs) (hgc : xs.length ≤ c) (hre : shEntry.rd w [.string e.1, .int .i64 e.2.1, .slice V m d] e)
    (hS : ∀ x ∈ xs, SmallP x.2) (he : SmallP e.2) (hl : xs.length ≤ 1048575) :
    Calls Try.prog 52 #[.slice (some ⟨b, o, none⟩) xs.length c, .agg #[.string e.1, .int .i64 e.2.1, .slice V m d]] w (PutR w (insM xs e)) := by
  obtain ⟨B', m', d', hce, hsz, hIn, hops⟩ := rdEntry hre
  simp only [List.cons.injEq, Value.slice.injEq, and_true, true_and] at hce
  obtain ⟨rfl, rfl, rfl⟩ := hce
  have hra := mkAlgebra (cOps := d) hIn hops
  obtain ⟨w0, hw0, T0, hsz0, BP⟩ := boxes1 w #[.string e.1, .int .i64 e.2.1, .slice V m d] 64
  have HW0 := Lib.hid hw0
  obtain ⟨css, hcl, hall, hone, hcell, hrd⟩ := rawE h
  have HALL := Lib.hid hall
  have HONE := Lib.hid hone
  have HCELL := Lib.hid hcell
  have HRD := Lib.hid hrd
  have HSM := Lib.hid hS
  clear hw0 hops hS hall hone hcell hrd
  go_enter Try.func52, Try.ntmps52
  go_wp2_with fail
  rw [← HW0.out]
  go_loopw [6] (fun i wr => ∃ k : Nat, k ≤ xs.length ∧ i = .int .i64 k ∧ Hid (PosAt e.2 xs k) ∧ Below w0.heap.size w0 wr) (fun i _ => xs.length - (intOf i).toNat)
  case atStart => exact ⟨0, Nat.zero_le _, rfl, PosAt.start _ _, Below.refl _ _⟩
  case round =>
    obtain ⟨k, hk, rfl, HPA, hT⟩ := hrel
    have hTw := below_next T0 hT rfl
    have Tk : Below wr.heap.size wr wr := Below.refl _ _
    have cb1 := (BP.next hT).cell 1
    have cb2 := (BP.next hT).cell 2
    simp at cb1 cb2
    by_cases hlt : k < xs.length
    · have hk0 : (0 : Int) ≤ (k : Int) := by omega
      have hk1 : (k : Int) < (xs.length : Int) := by omega
      have hy : xs[k]? = some (xs[k]'hlt) := List.getElem?_eq_getElem hlt
      generalize xs[k]'hlt = y at hy
      have hcj : css[k]? = some (css[k]'(by omega)) := List.getElem?_eq_getElem (by omega)
      generalize css[k]'(by omega) = cj at hcj
      have hoy := HRD.out k cj y hcj hy
      obtain ⟨B, q, r, rfl, hszy, hIny, hopsy⟩ := rdEntry hoy
      have hry := mkAlgebra (cOps := r) hIny hopsy
      have cc1 : wr.cell? ⟨b, o + k * 3 + 1, none⟩ = some (.int .i64 y.2.1) := keepc hTw (HCELL.out k _ hcj 1 _ rfl)
      have cc2 : wr.cell? ⟨b, o + k * 3 + 2, none⟩ = some (.slice B q r) := keepc hTw (HCELL.out k _ hcj 2 _ rfl)
      have hsy := HSM.out y (List.mem_of_getElem? hy)
      obtain ⟨cv, HCV⟩ : ∃ cv, Hid (befB y.2 e.2 = cv) := ⟨_, rfl⟩
      have HC : ∀ wz, Below wr.heap.size wr wz → Calls Try.prog 94 #[.agg #[.int .i64 y.2.1, .slice B q r], .agg #[.int .i64 e.2.1, .slice V m d]] wz (Bl wz (.bool (befB y.2 e.2))) := fun wz hz =>
        l31Before_any [.int .i64 y.2.1, .slice B q r] [.int .i64 e.2.1, .slice V m d] y.2 e.2 wz (shAlgebra.stab (shAlgebra.stab hry hTw.block) hz.block) (shAlgebra.stab (shAlgebra.stab hra hTw.block) hz.block) hsy he
      have HY := Lib.hid hy
      clear hoy hy hcj hopsy hry hszy hIny
      rcases cv with _ | _
      · have HPO : Hid (posL e.2 xs = k) := HPA.out.stop HY.out HCV.out
        go_wp2_with fail
        refine wp_region_held_drew (S := fun w' => w'.cell? ⟨b, o + k * 3 + 1, none⟩ = some (.int .i64 y.2.1) ∧ w'.cell? ⟨b, o + k * 3 + 2, none⟩ = some (.slice B q r) ∧ w'.cell? ⟨w.heap.size, 1, none⟩ = some (.int .i64 e.2.1) ∧ w'.cell? ⟨w.heap.size, 2, none⟩ = some (.slice V m d)) (by kernel_rfl) ⟨cc1, cc2, cb1, cb2⟩ (fun hHeld0 => ?_)
        refine wpAnyH_take (i := 0) (v := .int .i64 k) rfl (by kernel_rfl) (by kernel_rfl) (by kernel_rfl) (fun _ _ _ h => h) (Or.inl ⟨by kernel_rfl, fun _ _ => by go_simp⟩) (by assumption) ?_
        (try simp only [Act.put, List.getElem_toArray, List.getElem_cons_zero, List.getElem_cons_succ, List.setIfInBounds_toArray, List.set_cons_zero, List.set_cons_succ])
        refine wpAnyH_take (i := 1) (v := .slice (some ⟨b, o, none⟩) xs.length c) rfl (by kernel_rfl) (by kernel_rfl) (by kernel_rfl) (fun _ _ _ h => h) (Or.inl ⟨by kernel_rfl, fun _ _ => by go_simp⟩) (by assumption) ?_
        (try simp only [Act.put, List.getElem_toArray, List.getElem_cons_zero, List.getElem_cons_succ, List.setIfInBounds_toArray, List.set_cons_zero, List.set_cons_succ])
        refine wpAnyH_take (i := 2) (v := .int .i64 xs.length) rfl (by kernel_rfl) (by kernel_rfl) (by kernel_rfl) (fun _ _ _ h => h) (Or.inl ⟨by kernel_rfl, fun _ _ => by go_simp⟩) (by assumption) ?_
        (try simp only [Act.put, List.getElem_toArray, List.getElem_cons_zero, List.getElem_cons_succ, List.setIfInBounds_toArray, List.set_cons_zero, List.set_cons_succ])
        refine wpAnyH_take (i := 3) (v := .bool true) rfl (by kernel_rfl) (by kernel_rfl) (by kernel_rfl) (fun _ _ _ h => h) (Or.inl ⟨by kernel_rfl, fun _ _ => by go_simp⟩) (by assumption) ?_
        (try simp only [Act.put, List.getElem_toArray, List.getElem_cons_zero, List.getElem_cons_succ, List.setIfInBounds_toArray, List.set_cons_zero, List.set_cons_succ])
        refine wpAnyH_take (i := 4) (v := .bool true) rfl (by kernel_rfl) (by kernel_rfl) (by kernel_rfl) (fun _ _ _ h => h) (Or.inl ⟨by kernel_rfl, fun _ _ => by go_simp⟩) (by assumption) ?_
        (try simp only [Act.put, List.getElem_toArray, List.getElem_cons_zero, List.getElem_cons_succ, List.setIfInBounds_toArray, List.set_cons_zero, List.set_cons_succ])
        refine wpAnyH_take (i := 5) (v := .slice (some ⟨b, o, none⟩) xs.length c) rfl (by kernel_rfl) (by kernel_rfl) (by kernel_rfl) (fun _ _ _ h => h) (Or.inl ⟨by kernel_rfl, fun _ _ => by go_simp⟩) (by assumption) ?_
        (try simp only [Act.put, List.getElem_toArray, List.getElem_cons_zero, List.getElem_cons_succ, List.setIfInBounds_toArray, List.set_cons_zero, List.set_cons_succ])
        refine wpAnyH_take (i := 6) (v := .int .i64 k) rfl (by kernel_rfl) (by kernel_rfl) (by kernel_rfl) (fun _ _ _ h => h) (Or.inl ⟨by kernel_rfl, fun _ _ => by go_simp⟩) (by assumption) ?_
        (try simp only [Act.put, List.getElem_toArray, List.getElem_cons_zero, List.getElem_cons_succ, List.setIfInBounds_toArray, List.set_cons_zero, List.set_cons_succ])
        refine wpAnyH_take (i := 7) (v := .pointer (some ⟨b, o + k * 3, none⟩)) rfl (by kernel_rfl) (by kernel_rfl) (by kernel_rfl) (fun _ _ _ h => h) (Or.inl ⟨by kernel_rfl, fun _ _ => by go_simp⟩) (by assumption) ?_
        (try simp only [Act.put, List.getElem_toArray, List.getElem_cons_zero, List.getElem_cons_succ, List.setIfInBounds_toArray, List.set_cons_zero, List.set_cons_succ])
        refine wpAnyH_take (i := 8) (v := .pointer (some ⟨b, o + k * 3 + 1, none⟩)) rfl (by kernel_rfl) (by kernel_rfl) (by kernel_rfl) (fun _ _ _ h => h) (Or.inl ⟨by kernel_rfl, fun _ _ => by go_simp⟩) (by assumption) ?_
        (try simp only [Act.put, List.getElem_toArray, List.getElem_cons_zero, List.getElem_cons_succ, List.setIfInBounds_toArray, List.set_cons_zero, List.set_cons_succ])
        refine wpAnyH_take (i := 9) (v := .agg #[.int .i64 y.2.1, .slice B q r]) rfl (by kernel_rfl) (by kernel_rfl) (by kernel_rfl) (fun _ _ _ h => h) (Or.inl ⟨by kernel_rfl, fun wv hSw => by (obtain ⟨hS0, hS1, hS2, hS3⟩ := hSw); go_simp⟩) (by assumption) ?_
        (try simp only [Act.put, List.getElem_toArray, List.getElem_cons_zero, List.getElem_cons_succ, List.setIfInBounds_toArray, List.set_cons_zero, List.set_cons_succ])
        refine wpAnyH_take (i := 10) (v := .pointer (some ⟨w.heap.size, 1, none⟩)) rfl (by kernel_rfl) (by kernel_rfl) (by kernel_rfl) (fun _ _ _ h => h) (Or.inl ⟨by kernel_rfl, fun _ _ => by go_simp⟩) (by assumption) ?_
        (try simp only [Act.put, List.getElem_toArray, List.getElem_cons_zero, List.getElem_cons_succ, List.setIfInBounds_toArray, List.set_cons_zero, List.set_cons_succ])
        refine wpAnyH_take (i := 11) (v := .agg #[.int .i64 e.2.1, .slice V m d]) rfl (by kernel_rfl) (by kernel_rfl) (by kernel_rfl) (fun _ _ _ h => h) (Or.inl ⟨by kernel_rfl, fun wv hSw => by (obtain ⟨hS0, hS1, hS2, hS3⟩ := hSw); go_simp⟩) (by assumption) ?_
        (try simp only [Act.put, List.getElem_toArray, List.getElem_cons_zero, List.getElem_cons_succ, List.setIfInBounds_toArray, List.set_cons_zero, List.set_cons_succ])
        refine wpAnyH_ready (rs := [12]) (by kernel_rfl) (by simp) ?_
        refine AllReadyH.cons rfl (fun K hK => ?_) AllReadyH.nil
        go_simp
        refine (HC _ (Below.drew Tk)).mono ?_
        rintro e' wn ⟨rfl, hbn⟩
        rw [HCV.out]
        replace Tk := below_next (Below.drew Tk) hbn rfl
        go_wp2_with fail
        refine hK.out _ _ ⟨keepc Tk cc1, keepc Tk cc2, keepc Tk cb1, keepc Tk cb2⟩ (fun hHeld1 => ?_)
        clear hK K hHeld0
        (try simp only [Act.put, List.getElem_toArray, List.getElem_cons_zero, List.getElem_cons_succ, List.setIfInBounds_toArray, List.set_cons_zero, List.set_cons_succ])
        refine wpAnyH_take (i := 13) (v := .bool false) rfl (by kernel_rfl) (by kernel_rfl) (by kernel_rfl) (fun _ _ _ h => h) (Or.inl ⟨by kernel_rfl, fun _ _ => by go_simp⟩) (by assumption) ?_
        (try simp only [Act.put, List.getElem_toArray, List.getElem_cons_zero, List.getElem_cons_succ, List.setIfInBounds_toArray, List.set_cons_zero, List.set_cons_succ])
        refine wpAnyH_done (by kernel_rfl) ?_ _
        go_upto_region 4 with fail
        obtain ⟨wz, HWZ⟩ : ∃ wz : World, wz = wn := ⟨_, rfl⟩
        rw [← HWZ] at Tk ⊢
        clear HWZ
        have Tz := below_next hTw Tk rfl
        have cz0 := (BP.next (below_next hT Tk rfl)).cell 0
        have cz1 := (BP.next (below_next hT Tk rfl)).cell 1
        have cz2 := (BP.next (below_next hT Tk rfl)).cell 2
        simp at cz0 cz1 cz2
        have N1 : Hid (∀ (j : Nat) u, (css.take k).flatten[j]? = some u → wz.cell? ((⟨b, o, none⟩ : Addr).add j) = some u) := fun j u hu => by
          have h9 := raw_cells HALL.out HCELL.out 0 k j u (by rw [List.drop_zero]; exact hu)
          rw [Nat.zero_mul, Nat.add_zero] at h9
          exact keepc Tz h9
        obtain ⟨ad, HIF, N3⟩ : ∃ ad, Hid ((if c = k then some (⟨b, o, none⟩ : Addr) else some ⟨b, o + k * 3, none⟩) = some ad) ∧ Hid (∀ (j : Nat) u, (css.drop k).flatten[j]? = some u → wz.cell? (ad.add j) = some u) := by
          by_cases hq : c = k
          · refine ⟨⟨b, o, none⟩, if_pos hq, fun j u hu => ?_⟩
            have e0 : css.drop k = [] := List.drop_eq_nil_of_le (by omega)
            rw [e0] at hu
            simp at hu
          · refine ⟨_, if_neg hq, fun j u hu => keepc Tz (raw_cells HALL.out HCELL.out k (xs.length - k) j u ?_)⟩
            rw [List.take_of_length_le (by rw [List.length_drop, hcl]; omega)]
            exact hu
        have HLT : Hid ((css.take k).flatten.length = k * 3) := by show _ = _; rw [flat_len (m := 3) fun c hc => HALL.out c (List.mem_of_mem_take hc), List.length_take, Nat.min_eq_left (by omega)]
        have HL1 : Hid ((css.drop k).flatten.length = (xs.length - k) * 3) := by show _ = _; rw [flat_len (m := 3) fun c hc => HALL.out c (List.mem_of_mem_drop hc), List.length_drop, hcl]
        have HOT : Hid (∀ u ∈ (css.take k).flatten, u.oneCell' = true) := fun u hu => by
          obtain ⟨c, hc, hu⟩ := List.mem_flatten.1 hu
          exact HONE.out c (List.mem_of_mem_take hc) u hu
        have HON : Hid (∀ u ∈ (css.drop k).flatten, u.oneCell' = true) := fun u hu => by
          obtain ⟨c, hc, hu⟩ := List.mem_flatten.1 hu
          exact HONE.out c (List.mem_of_mem_drop hc) u hu
        have hkc : (k : Int) ≤ (c : Int) := by omega
        go_wp2_with (at_builtin; refine appN _ rfl (.tmp 24) (.tmp 27) 24 64 rfl (.agg #[.string ⟨#[]⟩, .int .i64 0, .slice none 0 0]) 48 Try.underlying24 info_entry3 rfl (by decide) wz.heap.size 0 0 _ [] (by rfl) (by exact own_lit wz) ⟨b, o, none⟩ k c (css.take k).flatten (by rfl) HLT.out (fun j u hu => by exact keepc (below_box wz _) (N1.out j u hu)) HOT.out (by omega) (by simp) ?_; intro A4 c4 w4 hown4 hg4 hb4; simp only [Nat.zero_add, List.nil_append] at hown4 ⊢)
        have T4 : Below wz.heap.size wz w4 := (below_box wz _).trans hb4
        have T4w := below_next Tz T4 rfl
        have cy0 := keepc T4 cz0
        have cy1 := keepc T4 cz1
        have cy2 := keepc T4 cz2
        clear cz0 cz1 cz2
        go_region_law (first
          | (refine step_appN _ rfl (.tmp 29) (.tmp 31) 24 64 rfl (.agg #[.string ⟨#[]⟩, .int .i64 0, .slice none 0 0]) 48 Try.underlying24 info_entry3 rfl (by decide) wz.heap.size k c4 A4 (css.take k).flatten (by rfl) (by exact hown4.alloc _) ⟨w4.heap.size, 0, none⟩ 1 1 [.string e.1, .int .i64 e.2.1, .slice V m d] (by rfl) rfl (fun j u hu => by first | exact new_cells w4 _ _ j u hu | exact keepc (Below.drew (Below.refl _ _)) (new_cells w4 _ _ j u hu)) (by simp [Value.oneCell']) (by omega) (by have := T4.size; simp; omega) ?_; intro A5 c5 w5 hown5 hg5 hb5; have T5 : Below wz.heap.size wz w5 := (by first | exact (below_next T4 (below_box w4 _) rfl).trans hb5 | exact (Below.drew (below_next T4 (below_box w4 _) rfl)).trans hb5))
          | (refine step_appN _ rfl (.tmp 32) (.tmp 35) 24 64 rfl (.agg #[.string ⟨#[]⟩, .int .i64 0, .slice none 0 0]) 48 Try.underlying24 info_entry3 rfl (by decide) wz.heap.size (k + 1) c5 A5 ((css.take k).flatten ++ [.string e.1, .int .i64 e.2.1, .slice V m d]) (by rfl) (by exact hown5) ad (xs.length - k) (c - k) (css.drop k).flatten (by show Value.slice (if c = k then _ else _) _ _ = _; rw [HIF.out]) HL1.out (fun j u hu => by exact keepc T5 (N3.out j u hu)) HON.out (by omega) (by exact T5.size) ?_; intro A6 c6 w6 hown6 hg6 hb6; have T6 := T5.trans hb6))
        all_goals
          have T6w := below_next Tz T6 rfl
          have hn6 : k + 1 + (xs.length - k) = (insM xs e).length := by rw [insM_len]; omega
          rw [hn6] at hown6 ⊢
          obtain ⟨g6, rfl, -, hnc6⟩ := own_formE hown6 (by rw [insM_len]; omega)
          have hr6 := put_read (w := w) (w6 := w6) hcl hk HALL.out HRD.out hre T6w HPO.out hown6
          have HR6 := Lib.hid hr6
          obtain ⟨ys, HYS⟩ : ∃ ys, Hid (insM xs e = ys) := ⟨_, rfl⟩
          rw [HYS.out] at hr6 hnc6 HR6 ⊢
          clear hown6 hg6 hb6 hown5 hg5 hb5 hown4 hg4 hb4 hr6
          go_wp2_with fail
          all_goals
            refine (l31Good_any _ _ _ ys _ HR6.out).mono ?_
            rintro e' w7 ⟨rfl, hb7⟩
            have HR7 := Lib.hid (HR6.out.next hb7)
            go_wp2_with fail
            all_goals
              go_ret2
              rw [HYS.out]
              exact ⟨g6, c6, rfl, hnc6, HR7.out, below_next T6w hb7 rfl⟩
      · go_wp2_with fail
        refine wp_region_held_drew (S := fun w' => w'.cell? ⟨b, o + k * 3 + 1, none⟩ = some (.int .i64 y.2.1) ∧ w'.cell? ⟨b, o + k * 3 + 2, none⟩ = some (.slice B q r) ∧ w'.cell? ⟨w.heap.size, 1, none⟩ = some (.int .i64 e.2.1) ∧ w'.cell? ⟨w.heap.size, 2, none⟩ = some (.slice V m d)) (by kernel_rfl) ⟨cc1, cc2, cb1, cb2⟩ (fun hHeld0 => ?_)
        refine wpAnyH_take (i := 0) (v := .int .i64 k) rfl (by kernel_rfl) (by kernel_rfl) (by kernel_rfl) (fun _ _ _ h => h) (Or.inl ⟨by kernel_rfl, fun _ _ => by go_simp⟩) (by assumption) ?_
        (try simp only [Act.put, List.getElem_toArray, List.getElem_cons_zero, List.getElem_cons_succ, List.setIfInBounds_toArray, List.set_cons_zero, List.set_cons_succ])
        refine wpAnyH_take (i := 1) (v := .slice (some ⟨b, o, none⟩) xs.length c) rfl (by kernel_rfl) (by kernel_rfl) (by kernel_rfl) (fun _ _ _ h => h) (Or.inl ⟨by kernel_rfl, fun _ _ => by go_simp⟩) (by assumption) ?_
        (try simp only [Act.put, List.getElem_toArray, List.getElem_cons_zero, List.getElem_cons_succ, List.setIfInBounds_toArray, List.set_cons_zero, List.set_cons_succ])
        refine wpAnyH_take (i := 2) (v := .int .i64 xs.length) rfl (by kernel_rfl) (by kernel_rfl) (by kernel_rfl) (fun _ _ _ h => h) (Or.inl ⟨by kernel_rfl, fun _ _ => by go_simp⟩) (by assumption) ?_
        (try simp only [Act.put, List.getElem_toArray, List.getElem_cons_zero, List.getElem_cons_succ, List.setIfInBounds_toArray, List.set_cons_zero, List.set_cons_succ])
        refine wpAnyH_take (i := 3) (v := .bool true) rfl (by kernel_rfl) (by kernel_rfl) (by kernel_rfl) (fun _ _ _ h => h) (Or.inl ⟨by kernel_rfl, fun _ _ => by go_simp⟩) (by assumption) ?_
        (try simp only [Act.put, List.getElem_toArray, List.getElem_cons_zero, List.getElem_cons_succ, List.setIfInBounds_toArray, List.set_cons_zero, List.set_cons_succ])
        refine wpAnyH_take (i := 4) (v := .bool true) rfl (by kernel_rfl) (by kernel_rfl) (by kernel_rfl) (fun _ _ _ h => h) (Or.inl ⟨by kernel_rfl, fun _ _ => by go_simp⟩) (by assumption) ?_
        (try simp only [Act.put, List.getElem_toArray, List.getElem_cons_zero, List.getElem_cons_succ, List.setIfInBounds_toArray, List.set_cons_zero, List.set_cons_succ])
        refine wpAnyH_take (i := 5) (v := .slice (some ⟨b, o, none⟩) xs.length c) rfl (by kernel_rfl) (by kernel_rfl) (by kernel_rfl) (fun _ _ _ h => h) (Or.inl ⟨by kernel_rfl, fun _ _ => by go_simp⟩) (by assumption) ?_
        (try simp only [Act.put, List.getElem_toArray, List.getElem_cons_zero, List.getElem_cons_succ, List.setIfInBounds_toArray, List.set_cons_zero, List.set_cons_succ])
        refine wpAnyH_take (i := 6) (v := .int .i64 k) rfl (by kernel_rfl) (by kernel_rfl) (by kernel_rfl) (fun _ _ _ h => h) (Or.inl ⟨by kernel_rfl, fun _ _ => by go_simp⟩) (by assumption) ?_
        (try simp only [Act.put, List.getElem_toArray, List.getElem_cons_zero, List.getElem_cons_succ, List.setIfInBounds_toArray, List.set_cons_zero, List.set_cons_succ])
        refine wpAnyH_take (i := 7) (v := .pointer (some ⟨b, o + k * 3, none⟩)) rfl (by kernel_rfl) (by kernel_rfl) (by kernel_rfl) (fun _ _ _ h => h) (Or.inl ⟨by kernel_rfl, fun _ _ => by go_simp⟩) (by assumption) ?_
        (try simp only [Act.put, List.getElem_toArray, List.getElem_cons_zero, List.getElem_cons_succ, List.setIfInBounds_toArray, List.set_cons_zero, List.set_cons_succ])
        refine wpAnyH_take (i := 8) (v := .pointer (some ⟨b, o + k * 3 + 1, none⟩)) rfl (by kernel_rfl) (by kernel_rfl) (by kernel_rfl) (fun _ _ _ h => h) (Or.inl ⟨by kernel_rfl, fun _ _ => by go_simp⟩) (by assumption) ?_
        (try simp only [Act.put, List.getElem_toArray, List.getElem_cons_zero, List.getElem_cons_succ, List.setIfInBounds_toArray, List.set_cons_zero, List.set_cons_succ])
        refine wpAnyH_take (i := 9) (v := .agg #[.int .i64 y.2.1, .slice B q r]) rfl (by kernel_rfl) (by kernel_rfl) (by kernel_rfl) (fun _ _ _ h => h) (Or.inl ⟨by kernel_rfl, fun wv hSw => by (obtain ⟨hS0, hS1, hS2, hS3⟩ := hSw); go_simp⟩) (by assumption) ?_
        (try simp only [Act.put, List.getElem_toArray, List.getElem_cons_zero, List.getElem_cons_succ, List.setIfInBounds_toArray, List.set_cons_zero, List.set_cons_succ])
        refine wpAnyH_take (i := 10) (v := .pointer (some ⟨w.heap.size, 1, none⟩)) rfl (by kernel_rfl) (by kernel_rfl) (by kernel_rfl) (fun _ _ _ h => h) (Or.inl ⟨by kernel_rfl, fun _ _ => by go_simp⟩) (by assumption) ?_
        (try simp only [Act.put, List.getElem_toArray, List.getElem_cons_zero, List.getElem_cons_succ, List.setIfInBounds_toArray, List.set_cons_zero, List.set_cons_succ])
        refine wpAnyH_take (i := 11) (v := .agg #[.int .i64 e.2.1, .slice V m d]) rfl (by kernel_rfl) (by kernel_rfl) (by kernel_rfl) (fun _ _ _ h => h) (Or.inl ⟨by kernel_rfl, fun wv hSw => by (obtain ⟨hS0, hS1, hS2, hS3⟩ := hSw); go_simp⟩) (by assumption) ?_
        (try simp only [Act.put, List.getElem_toArray, List.getElem_cons_zero, List.getElem_cons_succ, List.setIfInBounds_toArray, List.set_cons_zero, List.set_cons_succ])
        refine wpAnyH_ready (rs := [12]) (by kernel_rfl) (by simp) ?_
        refine AllReadyH.cons rfl (fun K hK => ?_) AllReadyH.nil
        go_simp
        refine (HC _ (Below.drew Tk)).mono ?_
        rintro e' wn ⟨rfl, hbn⟩
        rw [HCV.out]
        replace Tk := below_next (Below.drew Tk) hbn rfl
        go_wp2_with fail
        refine hK.out _ _ ⟨keepc Tk cc1, keepc Tk cc2, keepc Tk cb1, keepc Tk cb2⟩ (fun hHeld1 => ?_)
        clear hK K hHeld0
        (try simp only [Act.put, List.getElem_toArray, List.getElem_cons_zero, List.getElem_cons_succ, List.setIfInBounds_toArray, List.set_cons_zero, List.set_cons_succ])
        refine wpAnyH_take (i := 13) (v := .bool true) rfl (by kernel_rfl) (by kernel_rfl) (by kernel_rfl) (fun _ _ _ h => h) (Or.inl ⟨by kernel_rfl, fun _ _ => by go_simp⟩) (by assumption) ?_
        (try simp only [Act.put, List.getElem_toArray, List.getElem_cons_zero, List.getElem_cons_succ, List.setIfInBounds_toArray, List.set_cons_zero, List.set_cons_succ])
        refine wpAnyH_done (by kernel_rfl) ?_ _
        go_wp2_with fail
        go_roundw
        case rel => exact ⟨k + 1, by omega, by go_num, HPA.out.step HY.out HCV.out, below_next hT Tk rfl⟩
        case measure => simp [intOf]; omega
    · have hk0 : (0 : Int) ≤ (k : Int) := by omega
      have hk1 : ¬ (k : Int) < (xs.length : Int) := by omega
      have hk3 : (k : Int) ≤ (xs.length : Int) := by omega
      have HPO : Hid (posL e.2 xs = k) := HPA.out.done hlt
      go_wp2_with fail
      refine wp_region_held_drew (S := fun w' => w'.cell? ⟨w.heap.size, 1, none⟩ = some (.int .i64 e.2.1)) (by kernel_rfl) cb1 (fun hHeld0 => ?_)
      refine wpAnyH_take (i := 0) (v := .int .i64 k) rfl (by kernel_rfl) (by kernel_rfl) (by kernel_rfl) (fun _ _ _ h => h) (Or.inl ⟨by kernel_rfl, fun _ _ => by go_simp⟩) (by assumption) ?_
      (try simp only [Act.put, List.getElem_toArray, List.getElem_cons_zero, List.getElem_cons_succ, List.setIfInBounds_toArray, List.set_cons_zero, List.set_cons_succ])
      refine wpAnyH_take (i := 1) (v := .slice (some ⟨b, o, none⟩) xs.length c) rfl (by kernel_rfl) (by kernel_rfl) (by kernel_rfl) (fun _ _ _ h => h) (Or.inl ⟨by kernel_rfl, fun _ _ => by go_simp⟩) (by assumption) ?_
      (try simp only [Act.put, List.getElem_toArray, List.getElem_cons_zero, List.getElem_cons_succ, List.setIfInBounds_toArray, List.set_cons_zero, List.set_cons_succ])
      refine wpAnyH_take (i := 2) (v := .int .i64 xs.length) rfl (by kernel_rfl) (by kernel_rfl) (by kernel_rfl) (fun _ _ _ h => h) (Or.inl ⟨by kernel_rfl, fun _ _ => by go_simp⟩) (by assumption) ?_
      (try simp only [Act.put, List.getElem_toArray, List.getElem_cons_zero, List.getElem_cons_succ, List.setIfInBounds_toArray, List.set_cons_zero, List.set_cons_succ])
      refine wpAnyH_take (i := 3) (v := .bool false) rfl (by kernel_rfl) (by kernel_rfl) (by kernel_rfl) (fun _ _ _ h => h) (Or.inl ⟨by kernel_rfl, fun _ _ => by go_simp⟩) (by assumption) ?_
      (try simp only [Act.put, List.getElem_toArray, List.getElem_cons_zero, List.getElem_cons_succ, List.setIfInBounds_toArray, List.set_cons_zero, List.set_cons_succ])
      refine wpAnyH_take (i := 4) (v := .bool false) rfl (by kernel_rfl) (by kernel_rfl) (by kernel_rfl) (fun _ _ _ h => h) (Or.inl ⟨by kernel_rfl, fun _ _ => by go_simp⟩) (by assumption) ?_
      (try simp only [Act.put, List.getElem_toArray, List.getElem_cons_zero, List.getElem_cons_succ, List.setIfInBounds_toArray, List.set_cons_zero, List.set_cons_succ])
      refine wpAnyH_take (i := 5) (v := undef) rfl (by kernel_rfl) (by kernel_rfl) (by kernel_rfl) (fun _ _ _ h => h) (Or.inr ⟨by kernel_rfl, rfl⟩) (by assumption) ?_
      (try simp only [Act.put, List.getElem_toArray, List.getElem_cons_zero, List.getElem_cons_succ, List.setIfInBounds_toArray, List.set_cons_zero, List.set_cons_succ])
      refine wpAnyH_take (i := 6) (v := undef) rfl (by kernel_rfl) (by kernel_rfl) (by kernel_rfl) (fun _ _ _ h => h) (Or.inr ⟨by kernel_rfl, rfl⟩) (by assumption) ?_
      (try simp only [Act.put, List.getElem_toArray, List.getElem_cons_zero, List.getElem_cons_succ, List.setIfInBounds_toArray, List.set_cons_zero, List.set_cons_succ])
      refine wpAnyH_take (i := 7) (v := undef) rfl (by kernel_rfl) (by kernel_rfl) (by kernel_rfl) (fun _ _ _ h => h) (Or.inr ⟨by kernel_rfl, rfl⟩) (by assumption) ?_
      (try simp only [Act.put, List.getElem_toArray, List.getElem_cons_zero, List.getElem_cons_succ, List.setIfInBounds_toArray, List.set_cons_zero, List.set_cons_succ])
      refine wpAnyH_take (i := 8) (v := undef) rfl (by kernel_rfl) (by kernel_rfl) (by kernel_rfl) (fun _ _ _ h => h) (Or.inr ⟨by kernel_rfl, rfl⟩) (by assumption) ?_
      (try simp only [Act.put, List.getElem_toArray, List.getElem_cons_zero, List.getElem_cons_succ, List.setIfInBounds_toArray, List.set_cons_zero, List.set_cons_succ])
      refine wpAnyH_take (i := 9) (v := undef) rfl (by kernel_rfl) (by kernel_rfl) (by kernel_rfl) (fun _ _ _ h => h) (Or.inr ⟨by kernel_rfl, rfl⟩) (by assumption) ?_
      (try simp only [Act.put, List.getElem_toArray, List.getElem_cons_zero, List.getElem_cons_succ, List.setIfInBounds_toArray, List.set_cons_zero, List.set_cons_succ])
      refine wpAnyH_take (i := 10) (v := undef) rfl (by kernel_rfl) (by kernel_rfl) (by kernel_rfl) (fun _ _ _ h => h) (Or.inr ⟨by kernel_rfl, rfl⟩) (by assumption) ?_
      (try simp only [Act.put, List.getElem_toArray, List.getElem_cons_zero, List.getElem_cons_succ, List.setIfInBounds_toArray, List.set_cons_zero, List.set_cons_succ])
      refine wpAnyH_take (i := 11) (v := undef) rfl (by kernel_rfl) (by kernel_rfl) (by kernel_rfl) (fun _ _ _ h => h) (Or.inr ⟨by kernel_rfl, rfl⟩) (by assumption) ?_
      (try simp only [Act.put, List.getElem_toArray, List.getElem_cons_zero, List.getElem_cons_succ, List.setIfInBounds_toArray, List.set_cons_zero, List.set_cons_succ])
      refine wpAnyH_take (i := 12) (v := undef) rfl (by kernel_rfl) (by kernel_rfl) (by kernel_rfl) (fun _ _ _ h => h) (Or.inr ⟨by kernel_rfl, rfl⟩) (by assumption) ?_
      (try simp only [Act.put, List.getElem_toArray, List.getElem_cons_zero, List.getElem_cons_succ, List.setIfInBounds_toArray, List.set_cons_zero, List.set_cons_succ])
      refine wpAnyH_take (i := 13) (v := .bool false) rfl (by kernel_rfl) (by kernel_rfl) (by kernel_rfl) (fun _ _ _ h => h) (Or.inl ⟨by kernel_rfl, fun _ _ => by go_simp⟩) (by assumption) ?_
      (try simp only [Act.put, List.getElem_toArray, List.getElem_cons_zero, List.getElem_cons_succ, List.setIfInBounds_toArray, List.set_cons_zero, List.set_cons_succ])
      refine wpAnyH_done (by kernel_rfl) ?_ _
      go_upto_region 4 with fail
      replace Tk := Below.drew Tk
      obtain ⟨wz, HWZ⟩ : ∃ wz : World, wz = wr.drew := ⟨_, rfl⟩
      rw [← HWZ] at Tk ⊢
      clear HWZ
      have Tz := below_next hTw Tk rfl
      have cz0 := (BP.next (below_next hT Tk rfl)).cell 0
      have cz1 := (BP.next (below_next hT Tk rfl)).cell 1
      have cz2 := (BP.next (below_next hT Tk rfl)).cell 2
      simp at cz0 cz1 cz2
      have N1 : Hid (∀ (j : Nat) u, (css.take k).flatten[j]? = some u → wz.cell? ((⟨b, o, none⟩ : Addr).add j) = some u) := fun j u hu => by
        have h9 := raw_cells HALL.out HCELL.out 0 k j u (by rw [List.drop_zero]; exact hu)
        rw [Nat.zero_mul, Nat.add_zero] at h9
        exact keepc Tz h9
      obtain ⟨ad, HIF, N3⟩ : ∃ ad, Hid ((if c = k then some (⟨b, o, none⟩ : Addr) else some ⟨b, o + k * 3, none⟩) = some ad) ∧ Hid (∀ (j : Nat) u, (css.drop k).flatten[j]? = some u → wz.cell? (ad.add j) = some u) := by
        by_cases hq : c = k
        · refine ⟨⟨b, o, none⟩, if_pos hq, fun j u hu => ?_⟩
          have e0 : css.drop k = [] := List.drop_eq_nil_of_le (by omega)
          rw [e0] at hu
          simp at hu
        · refine ⟨_, if_neg hq, fun j u hu => keepc Tz (raw_cells HALL.out HCELL.out k (xs.length - k) j u ?_)⟩
          rw [List.take_of_length_le (by rw [List.length_drop, hcl]; omega)]
          exact hu
      have HLT : Hid ((css.take k).flatten.length = k * 3) := by show _ = _; rw [flat_len (m := 3) fun c hc => HALL.out c (List.mem_of_mem_take hc), List.length_take, Nat.min_eq_left (by omega)]
      have HL1 : Hid ((css.drop k).flatten.length = (xs.length - k) * 3) := by show _ = _; rw [flat_len (m := 3) fun c hc => HALL.out c (List.mem_of_mem_drop hc), List.length_drop, hcl]
      have HOT : Hid (∀ u ∈ (css.take k).flatten, u.oneCell' = true) := fun u hu => by
        obtain ⟨c, hc, hu⟩ := List.mem_flatten.1 hu
        exact HONE.out c (List.mem_of_mem_take hc) u hu
      have HON : Hid (∀ u ∈ (css.drop k).flatten, u.oneCell' = true) := fun u hu => by
        obtain ⟨c, hc, hu⟩ := List.mem_flatten.1 hu
        exact HONE.out c (List.mem_of_mem_drop hc) u hu
      have hkc : (k : Int) ≤ (c : Int) := by omega
      go_wp2_with (at_builtin; refine appN _ rfl (.tmp 24) (.tmp 27) 24 64 rfl (.agg #[.string ⟨#[]⟩, .int .i64 0, .slice none 0 0]) 48 Try.underlying24 info_entry3 rfl (by decide) wz.heap.size 0 0 _ [] (by rfl) (by exact own_lit wz) ⟨b, o, none⟩ k c (css.take k).flatten (by rfl) HLT.out (fun j u hu => by exact keepc (below_box wz _) (N1.out j u hu)) HOT.out (by omega) (by simp) ?_; intro A4 c4 w4 hown4 hg4 hb4; simp only [Nat.zero_add, List.nil_append] at hown4 ⊢)
      have T4 : Below wz.heap.size wz w4 := (below_box wz _).trans hb4
      have T4w := below_next Tz T4 rfl
      have cy0 := keepc T4 cz0
      have cy1 := keepc T4 cz1
      have cy2 := keepc T4 cz2
      clear cz0 cz1 cz2
      go_region_law (first
        | (refine step_appN _ rfl (.tmp 29) (.tmp 31) 24 64 rfl (.agg #[.string ⟨#[]⟩, .int .i64 0, .slice none 0 0]) 48 Try.underlying24 info_entry3 rfl (by decide) wz.heap.size k c4 A4 (css.take k).flatten (by rfl) (by exact hown4.alloc _) ⟨w4.heap.size, 0, none⟩ 1 1 [.string e.1, .int .i64 e.2.1, .slice V m d] (by rfl) rfl (fun j u hu => by first | exact new_cells w4 _ _ j u hu | exact keepc (Below.drew (Below.refl _ _)) (new_cells w4 _ _ j u hu)) (by simp [Value.oneCell']) (by omega) (by have := T4.size; simp; omega) ?_; intro A5 c5 w5 hown5 hg5 hb5; have T5 : Below wz.heap.size wz w5 := (by first | exact (below_next T4 (below_box w4 _) rfl).trans hb5 | exact (Below.drew (below_next T4 (below_box w4 _) rfl)).trans hb5))
        | (refine step_appN _ rfl (.tmp 32) (.tmp 35) 24 64 rfl (.agg #[.string ⟨#[]⟩, .int .i64 0, .slice none 0 0]) 48 Try.underlying24 info_entry3 rfl (by decide) wz.heap.size (k + 1) c5 A5 ((css.take k).flatten ++ [.string e.1, .int .i64 e.2.1, .slice V m d]) (by rfl) (by exact hown5) ad (xs.length - k) (c - k) (css.drop k).flatten (by show Value.slice (if c = k then _ else _) _ _ = _; rw [HIF.out]) HL1.out (fun j u hu => by exact keepc T5 (N3.out j u hu)) HON.out (by omega) (by exact T5.size) ?_; intro A6 c6 w6 hown6 hg6 hb6; have T6 := T5.trans hb6))
      all_goals
        have T6w := below_next Tz T6 rfl
        have hn6 : k + 1 + (xs.length - k) = (insM xs e).length := by rw [insM_len]; omega
        rw [hn6] at hown6 ⊢
        obtain ⟨g6, rfl, -, hnc6⟩ := own_formE hown6 (by rw [insM_len]; omega)
        have hr6 := put_read (w := w) (w6 := w6) hcl hk HALL.out HRD.out hre T6w HPO.out hown6
        have HR6 := Lib.hid hr6
        obtain ⟨ys, HYS⟩ : ∃ ys, Hid (insM xs e = ys) := ⟨_, rfl⟩
        rw [HYS.out] at hr6 hnc6 HR6 ⊢
        clear hown6 hg6 hb6 hown5 hg5 hb5 hown4 hg4 hb4 hr6
        go_wp2_with fail
        all_goals
          refine (l31Good_any _ _ _ ys _ HR6.out).mono ?_
          rintro e' w7 ⟨rfl, hb7⟩
          have HR7 := Lib.hid (HR6.out.next hb7)
          go_wp2_with fail
          all_goals
            go_ret2
            rw [HYS.out]
            exact ⟨g6, c6, rfl, hnc6, HR7.out, below_next T6w hb7 rfl⟩
end Go.Proofs.Ytbpdbimdefdefaa
