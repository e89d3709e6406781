/- Parts of the proof: Put, DrE, DrN, Bl, PermB, Dr31, DrC, DrF. -/
import Derived.Test.YtkmgbdljiajlaaaQ4
import Derived.Test.YtkmgbdljiajlaaaQ3
import Derived.Test.YtkmgbdljiajlaaaQ1
import Derived.IntWalk
import Derived.BigGuardPart
import Derived.StillTactics
namespace Go.Proofs.Ytkmgbdljiajlaaa
open Go.RowKit

theorem appN {P : Program} (w : World) {ops : Array Oper} {rest : List Oper} {o : Oper} {a : Act} {Q : Exit → Act → World → Prop} (hgd : o.guard = none) (s x : Operand) (t e : TypeId)
    (ho : o.op = .call { callee := .builtin .append, args := #[s, x], argTypes := #[t, t] }) (z : Value) (bytes : Nat)
    (ht : P.underlying t = some (.slice e)) (hi : (P.info? e).map (fun i => (i.zero, i.size, i.bytes)) = some (some z, 3, bytes)) (hzs : z.cells.size = 3) (hbb : bytes ≤ 64)
    (base n c : Nat) (A : Option Addr) (xs : List Value) (hs : a.eval s = .slice A n c) (hown : w.ownsRow base e 3 (.slice A n c) n xs)
    (ad : Addr) (m c2 : Nat) (news : List Value) (hx : a.eval x = .slice (some ad) m c2) (hl : news.length = m * 3) (hnews : ∀ j u, news[j]? = some u → w.cell? (ad.add j) = some u) (h1 : ∀ u ∈ news, u.oneCell' = true)
    (hn : n + m ≤ 1048576) (hbase : base ≤ w.heap.size)
    (hK : ∀ A' c' w', w'.ownsRow base e 3 (.slice A' (n + m) c') (n + m) (xs ++ news) → w.grownBy w' (Value.slice A n c).ownBlock → Below base w w' → wpList P ops Q rest (a.put o.dst (.slice A' (n + m) c')) w') :
    wpList P ops Q (o :: rest) a w := by
  obtain ⟨i, hi, hz, hsize, hby⟩ := info_parts hi
  have hbound : (n + m) * bytes ≤ 140737488355328 := Nat.le_trans (Nat.mul_le_mul_left (n + m) hbb) (by omega)
  refine wpList_plain hgd fun _ hK' => ?_
  refine wp_append_at w s x t ho base e i z 3 bytes ht hi hz hsize hby hzs (by omega) (.slice A n c) n xs hs hown ad m c2 news hx hl hnews h1 (by unfold maxLen; omega) hbound hbase fun v' w' h2 h3 _ => ?_
  obtain ⟨A', c', rfl⟩ := own_slice h2
  refine hK' _ _ (hK A' c' w' h2 h3 ?_)
  exact own_grown_below (Below.refl _ _) h3 hbase fun k hk => (hown.lt k hk).1
theorem new_cells (w : World) (cs : Array Value) (t : TypeId) : ∀ (j : Nat) u, cs.toList[j]? = some u → (w.alloc (.cells cs t)).cell? ((⟨w.heap.size, 0, none⟩ : Addr).add j) = some u := fun j u hu => by
  have h := (Blk.new w t cs).cell j
  have e : (⟨w.heap.size, 0, none⟩ : Addr).add j = ⟨w.heap.size, j, none⟩ := by
    unfold Addr.add
    split
    · rename_i h0; subst h0; rfl
    · simp
  rw [e, h]
  simpa using hu
theorem put_read {w w6 : World} {base k c6 : Nat} {A6 : Option Addr} {css : List (List Value)} {xs : List EntryM} {e : EntryM} {ce : List Value} (hcl : css.length = xs.length) (hk : k ≤ xs.length) (hall : ∀ c ∈ css, c.length = 3)
    (hrd : ∀ (k : Nat) cs x, css[k]? = some cs → xs[k]? = some x → shEntry.rd w cs x) (hre : shEntry.rd w ce e) (hT : Below w.heap.size w w6) (hp : posL e.2 xs = k)
    (hown : w6.ownsRow base 33 3 (.slice A6 (insM xs e).length c6) (insM xs e).length ((css.take k).flatten ++ ce ++ (css.drop k).flatten)) :
    RdN shEntry.m shEntry.rd w6 A6 (insM xs e).length (insM xs e) := by
  have ef : (css.take k).flatten ++ ce ++ (css.drop k).flatten = (css.take k ++ ce :: css.drop k).flatten := by rw [with_flat, List.append_assoc]
  rw [ef] at hown
  have hce : ce.length = 3 := shEntry.rd_len hre
  refine rdE_of_rows hown (fun c hc => ?_) ?_ rfl fun j cs x h1 h2 => ?_
  · rcases List.mem_append.1 hc with hc | hc
    · exact hall c (List.mem_of_mem_take hc)
    · rcases List.mem_cons.1 hc with rfl | hc
      · exact hce
      · exact hall c (List.mem_of_mem_drop hc)
  · rw [insM_len]; simp; omega
  · rw [insM_at hp] at h2
    rw [ins_get (by omega)] at h1 h2
    by_cases q1 : j < k
    · rw [if_pos q1] at h1 h2
      exact shEntry.stab (hrd j cs x h1 h2) hT.block
    · rw [if_neg q1] at h1 h2
      by_cases q2 : j = k
      · rw [if_pos q2] at h1 h2
        injection h1 with h1
        injection h2 with h2
        subst h1
        subst h2
        exact shEntry.stab hre hT.block
      · rw [if_neg q2] at h1 h2
        exact shEntry.stab (hrd _ cs x h1 h2) hT.block
theorem entR {w : World} {s : ByteArray} {a : AlgebraM} {V : Option Addr} {m d : Nat} (hs : s.size ≤ maxLen) (h : shAlgebra.rd w [.int .i64 a.1, .slice V m d] a) : shEntry.rd w [.string s, .int .i64 a.1, .slice V m d] (s, a) :=
  ⟨[.string s], [.int .i64 a.1, .slice V m d], rfl, ⟨_, rfl, rfl, hs⟩, h⟩
/-- The same, told with its row: the call's own, filled from the old rows. -/
def PutO (w : World) (ys : List EntryM) (b o : Nat) (xs : List EntryM) (e : EntryM) (ce : List Value) (e' : Ending) (w' : World) : Prop :=
  ∃ (g c : Nat) (css : List (List Value)) (k : Nat), e' = .returned (.tuple #[.slice (some ⟨g, 0, none⟩) ys.length c, .bool (catB ys)]) ∧ ys.length ≤ c ∧ Below w.heap.size w w' ∧ k ≤ xs.length ∧ posL e.2 xs = k ∧ css.length = xs.length ∧ (∀ c ∈ css, List.length c = 3) ∧
    (∀ (k : Nat) cs, css[k]? = some cs → ∀ (i : Nat) v, cs[i]? = some v → w.cell? ⟨b, o + k * 3 + i, none⟩ = some v) ∧ (∀ (k : Nat) cs x, css[k]? = some cs → xs[k]? = some x → shEntry.rd w cs x) ∧
    w'.ownsRow w.heap.size 33 3 (.slice (some ⟨g, 0, none⟩) ys.length c) ys.length ((css.take k).flatten ++ ce ++ (css.drop k).flatten)
def PutR (w : World) (ys : List EntryM) (e : Ending) (w' : World) : Prop :=
  ∃ g c, e = .returned (.tuple #[.slice (some ⟨g, 0, none⟩) ys.length c, .bool (catB ys)]) ∧ ys.length ≤ c ∧ RdN shEntry.m shEntry.rd w' (some ⟨g, 0, none⟩) ys.length ys ∧ Below w.heap.size w w'
set_option linter.unusedVariables false in
set_option linter.unusedSimpArgs false in
set_option maxRecDepth 100000 in
set_option maxHeartbeats 16000000 in
theorem l31PutO_any (b o c : Nat) (xs : List EntryM) (e : EntryM) (V : Option Addr) (m d : Nat) (w : World)
    (h : RdN shEntry.m shEntry.rd w (some ⟨b, o, none⟩) xs.length xs) (hgc : xs.length ≤ c) (hre : shEntry.rd w [.string e.1, .int .i64 e.2.1, .slice V m d] e)
    (hS : ∀ x ∈ xs, SmallP x.2) (he : SmallP e.2) (hl : xs.length ≤ 1048575) :
    Calls Try.prog 49 #[.slice (some ⟨b, o, none⟩) xs.length c, .agg #[.string e.1, .int .i64 e.2.1, .slice V m d]] w (PutO w (insM xs e) b o xs e [.string e.1, .int .i64 e.2.1, .slice V m d]) := by
  obtain ⟨B', m', d', hce, hsz, hIn, hops⟩ := rdEntry hre
  simp only [List.cons.injEq, Value.slice.injEq, and_true, true_and] at hce
  obtain ⟨rfl, rfl, rfl⟩ := hce
  have hra := mkAlgebra (cOps := d) hIn hops
  obtain ⟨w0, hw0, T0, hsz0, BP⟩ := boxes1 w #[.string e.1, .int .i64 e.2.1, .slice V m d] 33
  have HW0 := Lib.hid hw0
  obtain ⟨css, hcl, hall, hone, hcell, hrd⟩ := rawE h
  have HALL := Lib.hid hall
  have HONE := Lib.hid hone
  have HCELL := Lib.hid hcell
  have HRD := Lib.hid hrd
  have HSM := Lib.hid hS
  clear hw0 hops hS hall hone hcell hrd
  go_enter Try.func49, Try.ntmps49
  go_wp2_with fail
  rw [← HW0.out]
  go_loopw [6] (fun i wr => ∃ k : Nat, k ≤ xs.length ∧ i = .int .i64 k ∧ Hid (PosAt e.2 xs k) ∧ Below w0.heap.size w0 wr) (fun i _ => xs.length - (intOf i).toNat)
  case atStart => exact ⟨0, Nat.zero_le _, rfl, PosAt.start _ _, Below.refl _ _⟩
  case round =>
    obtain ⟨k, hk, rfl, HPA, hT⟩ := hrel
    have hTw := below_next T0 hT rfl
    have Tk : Below wr.heap.size wr wr := Below.refl _ _
    have cb1 := (BP.next hT).cell 1
    have cb2 := (BP.next hT).cell 2
    simp at cb1 cb2
    by_cases hlt : k < xs.length
    · have hk0 : (0 : Int) ≤ (k : Int) := by omega
      have hk1 : (k : Int) < (xs.length : Int) := by omega
      have hy : xs[k]? = some (xs[k]'hlt) := List.getElem?_eq_getElem hlt
      generalize xs[k]'hlt = y at hy
      have hcj : css[k]? = some (css[k]'(by omega)) := List.getElem?_eq_getElem (by omega)
      generalize css[k]'(by omega) = cj at hcj
      have hoy := HRD.out k cj y hcj hy
      obtain ⟨B, q, r, rfl, hszy, hIny, hopsy⟩ := rdEntry hoy
      have hry := mkAlgebra (cOps := r) hIny hopsy
      have cc1 : wr.cell? ⟨b, o + k * 3 + 1, none⟩ = some (.int .i64 y.2.1) := keepc hTw (HCELL.out k _ hcj 1 _ rfl)
      have cc2 : wr.cell? ⟨b, o + k * 3 + 2, none⟩ = some (.slice B q r) := keepc hTw (HCELL.out k _ hcj 2 _ rfl)
      have hsy := HSM.out y (List.mem_of_getElem? hy)
      obtain ⟨cv, HCV⟩ : ∃ cv, Hid (befB y.2 e.2 = cv) := ⟨_, rfl⟩
      have HC : ∀ wz, Below wr.heap.size wr wz → Calls Try.prog 88 #[.agg #[.int .i64 y.2.1, .slice B q r], .agg #[.int .i64 e.2.1, .slice V m d]] wz (Bl wz (.bool (befB y.2 e.2))) := fun wz hz =>
        l31Before_any [.int .i64 y.2.1, .slice B q r] [.int .i64 e.2.1, .slice V m d] y.2 e.2 wz (shAlgebra.stab (shAlgebra.stab hry hTw.block) hz.block) (shAlgebra.stab (shAlgebra.stab hra hTw.block) hz.block) hsy he
      have HY := Lib.hid hy
      clear hoy hy hcj hopsy hry hszy hIny
      rcases cv with _ | _
      · have HPO : Hid (posL e.2 xs = k) := HPA.out.stop HY.out HCV.out
        go_wp2_with fail
        refine wp_region_held_drew (S := fun w' => w'.cell? ⟨b, o + k * 3 + 1, none⟩ = some (.int .i64 y.2.1) ∧ w'.cell? ⟨b, o + k * 3 + 2, none⟩ = some (.slice B q r) ∧ w'.cell? ⟨w.heap.size, 1, none⟩ = some (.int .i64 e.2.1) ∧ w'.cell? ⟨w.heap.size, 2, none⟩ = some (.slice V m d)) (by kernel_rfl) ⟨cc1, cc2, cb1, cb2⟩ (fun hHeld0 => ?_)
        refine wpAnyH_take (i := 0) (v := .int .i64 k) rfl (by kernel_rfl) (by kernel_rfl) (by kernel_rfl) (fun _ _ _ h => h) (Or.inl ⟨by kernel_rfl, fun _ _ => by go_simp⟩) (by assumption) ?_
        (try simp only [Act.put, List.getElem_toArray, List.getElem_cons_zero, List.getElem_cons_succ, List.setIfInBounds_toArray, List.set_cons_zero, List.set_cons_succ])
        refine wpAnyH_take (i := 1) (v := .slice (some ⟨b, o, none⟩) xs.length c) rfl (by kernel_rfl) (by kernel_rfl) (by kernel_rfl) (fun _ _ _ h => h) (Or.inl ⟨by kernel_rfl, fun _ _ => by go_simp⟩) (by assumption) ?_
        (try simp only [Act.put, List.getElem_toArray, List.getElem_cons_zero, List.getElem_cons_succ, List.setIfInBounds_toArray, List.set_cons_zero, List.set_cons_succ])
        refine wpAnyH_take (i := 2) (v := .int .i64 xs.length) rfl (by kernel_rfl) (by kernel_rfl) (by kernel_rfl) (fun _ _ _ h => h) (Or.inl ⟨by kernel_rfl, fun _ _ => by go_simp⟩) (by assumption) ?_
        (try simp only [Act.put, List.getElem_toArray, List.getElem_cons_zero, List.getElem_cons_succ, List.setIfInBounds_toArray, List.set_cons_zero, List.set_cons_succ])
        refine wpAnyH_take (i := 3) (v := .bool true) rfl (by kernel_rfl) (by kernel_rfl) (by kernel_rfl) (fun _ _ _ h => h) (Or.inl ⟨by kernel_rfl, fun _ _ => by go_simp⟩) (by assumption) ?_
        (try simp only [Act.put, List.getElem_toArray, List.getElem_cons_zero, List.getElem_cons_succ, List.setIfInBounds_toArray, List.set_cons_zero, List.set_cons_succ])
        refine wpAnyH_take (i := 4) (v := .bool true) rfl (by kernel_rfl) (by kernel_rfl) (by kernel_rfl) (fun _ _ _ h => h) (Or.inl ⟨by kernel_rfl, fun _ _ => by go_simp⟩) (by assumption) ?_
        (try simp only [Act.put, List.getElem_toArray, List.getElem_cons_zero, List.getElem_cons_succ, List.setIfInBounds_toArray, List.set_cons_zero, List.set_cons_succ])
        refine wpAnyH_take (i := 5) (v := .slice (some ⟨b, o, none⟩) xs.length c) rfl (by kernel_rfl) (by kernel_rfl) (by kernel_rfl) (fun _ _ _ h => h) (Or.inl ⟨by kernel_rfl, fun _ _ => by go_simp⟩) (by assumption) ?_
        (try simp only [Act.put, List.getElem_toArray, List.getElem_cons_zero, List.getElem_cons_succ, List.setIfInBounds_toArray, List.set_cons_zero, List.set_cons_succ])
        refine wpAnyH_take (i := 6) (v := .int .i64 k) rfl (by kernel_rfl) (by kernel_rfl) (by kernel_rfl) (fun _ _ _ h => h) (Or.inl ⟨by kernel_rfl, fun _ _ => by go_simp⟩) (by assumption) ?_
        (try simp only [Act.put, List.getElem_toArray, List.getElem_cons_zero, List.getElem_cons_succ, List.setIfInBounds_toArray, List.set_cons_zero, List.set_cons_succ])
        refine wpAnyH_take (i := 7) (v := .pointer (some ⟨b, o + k * 3, none⟩)) rfl (by kernel_rfl) (by kernel_rfl) (by kernel_rfl) (fun _ _ _ h => h) (Or.inl ⟨by kernel_rfl, fun _ _ => by go_simp⟩) (by assumption) ?_
        (try simp only [Act.put, List.getElem_toArray, List.getElem_cons_zero, List.getElem_cons_succ, List.setIfInBounds_toArray, List.set_cons_zero, List.set_cons_succ])
        refine wpAnyH_take (i := 8) (v := .pointer (some ⟨b, o + k * 3 + 1, none⟩)) rfl (by kernel_rfl) (by kernel_rfl) (by kernel_rfl) (fun _ _ _ h => h) (Or.inl ⟨by kernel_rfl, fun _ _ => by go_simp⟩) (by assumption) ?_
        (try simp only [Act.put, List.getElem_toArray, List.getElem_cons_zero, List.getElem_cons_succ, List.setIfInBounds_toArray, List.set_cons_zero, List.set_cons_succ])
        refine wpAnyH_take (i := 9) (v := .agg #[.int .i64 y.2.1, .slice B q r]) rfl (by kernel_rfl) (by kernel_rfl) (by kernel_rfl) (fun _ _ _ h => h) (Or.inl ⟨by kernel_rfl, fun wv hSw => by (obtain ⟨hS0, hS1, hS2, hS3⟩ := hSw); go_simp⟩) (by assumption) ?_
        (try simp only [Act.put, List.getElem_toArray, List.getElem_cons_zero, List.getElem_cons_succ, List.setIfInBounds_toArray, List.set_cons_zero, List.set_cons_succ])
        refine wpAnyH_take (i := 10) (v := .pointer (some ⟨w.heap.size, 1, none⟩)) rfl (by kernel_rfl) (by kernel_rfl) (by kernel_rfl) (fun _ _ _ h => h) (Or.inl ⟨by kernel_rfl, fun _ _ => by go_simp⟩) (by assumption) ?_
        (try simp only [Act.put, List.getElem_toArray, List.getElem_cons_zero, List.getElem_cons_succ, List.setIfInBounds_toArray, List.set_cons_zero, List.set_cons_succ])
        refine wpAnyH_take (i := 11) (v := .agg #[.int .i64 e.2.1, .slice V m d]) rfl (by kernel_rfl) (by kernel_rfl) (by kernel_rfl) (fun _ _ _ h => h) (Or.inl ⟨by kernel_rfl, fun wv hSw => by (obtain ⟨hS0, hS1, hS2, hS3⟩ := hSw); go_simp⟩) (by assumption) ?_
        (try simp only [Act.put, List.getElem_toArray, List.getElem_cons_zero, List.getElem_cons_succ, List.setIfInBounds_toArray, List.set_cons_zero, List.set_cons_succ])
        refine wpAnyH_ready (rs := [12]) (by kernel_rfl) (by simp) ?_
        refine AllReadyH.cons rfl (fun K hK => ?_) AllReadyH.nil
        go_simp
        refine (HC _ (Below.drew Tk)).mono ?_
        rintro e' wn ⟨rfl, hbn⟩
        rw [HCV.out]
        replace Tk := below_next (Below.drew Tk) hbn rfl
        go_wp2_with fail
        refine hK.out _ _ ⟨keepc Tk cc1, keepc Tk cc2, keepc Tk cb1, keepc Tk cb2⟩ (fun hHeld1 => ?_)
        clear hK K hHeld0
        (try simp only [Act.put, List.getElem_toArray, List.getElem_cons_zero, List.getElem_cons_succ, List.setIfInBounds_toArray, List.set_cons_zero, List.set_cons_succ])
        refine wpAnyH_take (i := 13) (v := .bool false) rfl (by kernel_rfl) (by kernel_rfl) (by kernel_rfl) (fun _ _ _ h => h) (Or.inl ⟨by kernel_rfl, fun _ _ => by go_simp⟩) (by assumption) ?_
        (try simp only [Act.put, List.getElem_toArray, List.getElem_cons_zero, List.getElem_cons_succ, List.setIfInBounds_toArray, List.set_cons_zero, List.set_cons_succ])
        refine wpAnyH_done (by kernel_rfl) ?_ _
        go_upto_region 4 with fail
        obtain ⟨wz, HWZ⟩ : ∃ wz : World, wz = wn := ⟨_, rfl⟩
        rw [← HWZ] at Tk ⊢
        clear HWZ
        have Tz := below_next hTw Tk rfl
        have cz0 := (BP.next (below_next hT Tk rfl)).cell 0
        have cz1 := (BP.next (below_next hT Tk rfl)).cell 1
        have cz2 := (BP.next (below_next hT Tk rfl)).cell 2
        simp at cz0 cz1 cz2
        have N1 : Hid (∀ (j : Nat) u, (css.take k).flatten[j]? = some u → wz.cell? ((⟨b, o, none⟩ : Addr).add j) = some u) := fun j u hu => by
          have h9 := raw_cells HALL.out HCELL.out 0 k j u (by rw [List.drop_zero]; exact hu)
          rw [Nat.zero_mul, Nat.add_zero] at h9
          exact keepc Tz h9
        obtain ⟨ad, HIF, N3⟩ : ∃ ad, Hid ((if c = k then some (⟨b, o, none⟩ : Addr) else some ⟨b, o + k * 3, none⟩) = some ad) ∧ Hid (∀ (j : Nat) u, (css.drop k).flatten[j]? = some u → wz.cell? (ad.add j) = some u) := by
          by_cases hq : c = k
          · refine ⟨⟨b, o, none⟩, if_pos hq, fun j u hu => ?_⟩
            have e0 : css.drop k = [] := List.drop_eq_nil_of_le (by omega)
            rw [e0] at hu
            simp at hu
          · refine ⟨_, if_neg hq, fun j u hu => keepc Tz (raw_cells HALL.out HCELL.out k (xs.length - k) j u ?_)⟩
            rw [List.take_of_length_le (by rw [List.length_drop, hcl]; omega)]
            exact hu
        have HLT : Hid ((css.take k).flatten.length = k * 3) := by show _ = _; rw [flat_len (m := 3) fun c hc => HALL.out c (List.mem_of_mem_take hc), List.length_take, Nat.min_eq_left (by omega)]
        have HL1 : Hid ((css.drop k).flatten.length = (xs.length - k) * 3) := by show _ = _; rw [flat_len (m := 3) fun c hc => HALL.out c (List.mem_of_mem_drop hc), List.length_drop, hcl]
        have HOT : Hid (∀ u ∈ (css.take k).flatten, u.oneCell' = true) := fun u hu => by
          obtain ⟨c, hc, hu⟩ := List.mem_flatten.1 hu
          exact HONE.out c (List.mem_of_mem_take hc) u hu
        have HON : Hid (∀ u ∈ (css.drop k).flatten, u.oneCell' = true) := fun u hu => by
          obtain ⟨c, hc, hu⟩ := List.mem_flatten.1 hu
          exact HONE.out c (List.mem_of_mem_drop hc) u hu
        have hkc : (k : Int) ≤ (c : Int) := by omega
        go_wp2_with (at_builtin; refine appN _ rfl (.tmp 24) (.tmp 27) 24 33 rfl (.agg #[.string ⟨#[]⟩, .int .i64 0, .slice none 0 0]) 48 Try.underlying24 info_entry3 rfl (by decide) wz.heap.size 0 0 _ [] (by rfl) (by exact own_lit wz) ⟨b, o, none⟩ k c (css.take k).flatten (by rfl) HLT.out (fun j u hu => by exact keepc (below_box wz _) (N1.out j u hu)) HOT.out (by omega) (by simp) ?_; intro A4 c4 w4 hown4 hg4 hb4; simp only [Nat.zero_add, List.nil_append] at hown4 ⊢)
        have T4 : Below wz.heap.size wz w4 := (below_box wz _).trans hb4
        have T4w := below_next Tz T4 rfl
        have cy0 := keepc T4 cz0
        have cy1 := keepc T4 cz1
        have cy2 := keepc T4 cz2
        clear cz0 cz1 cz2
        go_region_law (first
          | (refine step_appN _ rfl (.tmp 29) (.tmp 31) 24 33 rfl (.agg #[.string ⟨#[]⟩, .int .i64 0, .slice none 0 0]) 48 Try.underlying24 info_entry3 rfl (by decide) wz.heap.size k c4 A4 (css.take k).flatten (by rfl) (by exact hown4.alloc _) ⟨w4.heap.size, 0, none⟩ 1 1 [.string e.1, .int .i64 e.2.1, .slice V m d] (by rfl) rfl (fun j u hu => by first | exact new_cells w4 _ _ j u hu | exact keepc (Below.drew (Below.refl _ _)) (new_cells w4 _ _ j u hu)) (by simp [Value.oneCell']) (by omega) (by have := T4.size; simp; omega) ?_; intro A5 c5 w5 hown5 hg5 hb5; have T5 : Below wz.heap.size wz w5 := (by first | exact (below_next T4 (below_box w4 _) rfl).trans hb5 | exact (Below.drew (below_next T4 (below_box w4 _) rfl)).trans hb5))
          | (refine step_appN _ rfl (.tmp 32) (.tmp 35) 24 33 rfl (.agg #[.string ⟨#[]⟩, .int .i64 0, .slice none 0 0]) 48 Try.underlying24 info_entry3 rfl (by decide) wz.heap.size (k + 1) c5 A5 ((css.take k).flatten ++ [.string e.1, .int .i64 e.2.1, .slice V m d]) (by rfl) (by exact hown5) ad (xs.length - k) (c - k) (css.drop k).flatten (by show Value.slice (if c = k then _ else _) _ _ = _; rw [HIF.out]) HL1.out (fun j u hu => by exact keepc T5 (N3.out j u hu)) HON.out (by omega) (by exact T5.size) ?_; intro A6 c6 w6 hown6 hg6 hb6; have T6 := T5.trans hb6))
        all_goals
          have T6w := below_next Tz T6 rfl
          have hn6 : k + 1 + (xs.length - k) = (insM xs e).length := by rw [insM_len]; omega
          rw [hn6] at hown6 ⊢
          obtain ⟨g6, rfl, -, hnc6⟩ := own_formE hown6 (by rw [insM_len]; omega)
          have hr6 := put_read (w := w) (w6 := w6) hcl hk HALL.out HRD.out hre T6w HPO.out hown6
          have HR6 := Lib.hid hr6
          have HO6 := Lib.hid (own_mono hown6 Tz.size)
          obtain ⟨ys, HYS⟩ : ∃ ys, Hid (insM xs e = ys) := ⟨_, rfl⟩
          rw [HYS.out] at hr6 hnc6 HR6 HO6 ⊢
          clear hown6 hg6 hb6 hown5 hg5 hb5 hown4 hg4 hb4 hr6
          go_wp2_with fail
          all_goals
            refine (l31Good_any _ _ _ ys _ HR6.out).mono ?_
            rintro e' w7 ⟨rfl, hb7⟩
            have HO7 := Lib.hid (own_next HO6.out hb7)
            go_wp2_with fail
            all_goals
              go_ret2
              rw [HYS.out]
              exact ⟨g6, c6, css, k, rfl, hnc6, below_next T6w hb7 rfl, hk, HPO.out, hcl, HALL.out, HCELL.out, HRD.out, HO7.out⟩
      · go_wp2_with fail
        refine wp_region_held_drew (S := fun w' => w'.cell? ⟨b, o + k * 3 + 1, none⟩ = some (.int .i64 y.2.1) ∧ w'.cell? ⟨b, o + k * 3 + 2, none⟩ = some (.slice B q r) ∧ w'.cell? ⟨w.heap.size, 1, none⟩ = some (.int .i64 e.2.1) ∧ w'.cell? ⟨w.heap.size, 2, none⟩ = some (.slice V m d)) (by kernel_rfl) ⟨cc1, cc2, cb1, cb2⟩ (fun hHeld0 => ?_)
        refine wpAnyH_take (i := 0) (v := .int .i64 k) rfl (by kernel_rfl) (by kernel_rfl) (by kernel_rfl) (fun _ _ _ h => h) (Or.inl ⟨by kernel_rfl, fun _ _ => by go_simp⟩) (by assumption) ?_
        (try simp only [Act.put, List.getElem_toArray, List.getElem_cons_zero, List.getElem_cons_succ, List.setIfInBounds_toArray, List.set_cons_zero, List.set_cons_succ])
        refine wpAnyH_take (i := 1) (v := .slice (some ⟨b, o, none⟩) xs.length c) rfl (by kernel_rfl) (by kernel_rfl) (by kernel_rfl) (fun _ _ _ h => h) (Or.inl ⟨by kernel_rfl, fun _ _ => by go_simp⟩) (by assumption) ?_
        (try simp only [Act.put, List.getElem_toArray, List.getElem_cons_zero, List.getElem_cons_succ, List.setIfInBounds_toArray, List.set_cons_zero, List.set_cons_succ])
        refine wpAnyH_take (i := 2) (v := .int .i64 xs.length) rfl (by kernel_rfl) (by kernel_rfl) (by kernel_rfl) (fun _ _ _ h => h) (Or.inl ⟨by kernel_rfl, fun _ _ => by go_simp⟩) (by assumption) ?_
        (try simp only [Act.put, List.getElem_toArray, List.getElem_cons_zero, List.getElem_cons_succ, List.setIfInBounds_toArray, List.set_cons_zero, List.set_cons_succ])
        refine wpAnyH_take (i := 3) (v := .bool true) rfl (by kernel_rfl) (by kernel_rfl) (by kernel_rfl) (fun _ _ _ h => h) (Or.inl ⟨by kernel_rfl, fun _ _ => by go_simp⟩) (by assumption) ?_
        (try simp only [Act.put, List.getElem_toArray, List.getElem_cons_zero, List.getElem_cons_succ, List.setIfInBounds_toArray, List.set_cons_zero, List.set_cons_succ])
        refine wpAnyH_take (i := 4) (v := .bool true) rfl (by kernel_rfl) (by kernel_rfl) (by kernel_rfl) (fun _ _ _ h => h) (Or.inl ⟨by kernel_rfl, fun _ _ => by go_simp⟩) (by assumption) ?_
        (try simp only [Act.put, List.getElem_toArray, List.getElem_cons_zero, List.getElem_cons_succ, List.setIfInBounds_toArray, List.set_cons_zero, List.set_cons_succ])
        refine wpAnyH_take (i := 5) (v := .slice (some ⟨b, o, none⟩) xs.length c) rfl (by kernel_rfl) (by kernel_rfl) (by kernel_rfl) (fun _ _ _ h => h) (Or.inl ⟨by kernel_rfl, fun _ _ => by go_simp⟩) (by assumption) ?_
        (try simp only [Act.put, List.getElem_toArray, List.getElem_cons_zero, List.getElem_cons_succ, List.setIfInBounds_toArray, List.set_cons_zero, List.set_cons_succ])
        refine wpAnyH_take (i := 6) (v := .int .i64 k) rfl (by kernel_rfl) (by kernel_rfl) (by kernel_rfl) (fun _ _ _ h => h) (Or.inl ⟨by kernel_rfl, fun _ _ => by go_simp⟩) (by assumption) ?_
        (try simp only [Act.put, List.getElem_toArray, List.getElem_cons_zero, List.getElem_cons_succ, List.setIfInBounds_toArray, List.set_cons_zero, List.set_cons_succ])
        refine wpAnyH_take (i := 7) (v := .pointer (some ⟨b, o + k * 3, none⟩)) rfl (by kernel_rfl) (by kernel_rfl) (by kernel_rfl) (fun _ _ _ h => h) (Or.inl ⟨by kernel_rfl, fun _ _ => by go_simp⟩) (by assumption) ?_
        (try simp only [Act.put, List.getElem_toArray, List.getElem_cons_zero, List.getElem_cons_succ, List.setIfInBounds_toArray, List.set_cons_zero, List.set_cons_succ])
        refine wpAnyH_take (i := 8) (v := .pointer (some ⟨b, o + k * 3 + 1, none⟩)) rfl (by kernel_rfl) (by kernel_rfl) (by kernel_rfl) (fun _ _ _ h => h) (Or.inl ⟨by kernel_rfl, fun _ _ => by go_simp⟩) (by assumption) ?_
        (try simp only [Act.put, List.getElem_toArray, List.getElem_cons_zero, List.getElem_cons_succ, List.setIfInBounds_toArray, List.set_cons_zero, List.set_cons_succ])
        refine wpAnyH_take (i := 9) (v := .agg #[.int .i64 y.2.1, .slice B q r]) rfl (by kernel_rfl) (by kernel_rfl) (by kernel_rfl) (fun _ _ _ h => h) (Or.inl ⟨by kernel_rfl, fun wv hSw => by (obtain ⟨hS0, hS1, hS2, hS3⟩ := hSw); go_simp⟩) (by assumption) ?_
        (try simp only [Act.put, List.getElem_toArray, List.getElem_cons_zero, List.getElem_cons_succ, List.setIfInBounds_toArray, List.set_cons_zero, List.set_cons_succ])
        refine wpAnyH_take (i := 10) (v := .pointer (some ⟨w.heap.size, 1, none⟩)) rfl (by kernel_rfl) (by kernel_rfl) (by kernel_rfl) (fun _ _ _ h => h) (Or.inl ⟨by kernel_rfl, fun _ _ => by go_simp⟩) (by assumption) ?_
        (try simp only [Act.put, List.getElem_toArray, List.getElem_cons_zero, List.getElem_cons_succ, List.setIfInBounds_toArray, List.set_cons_zero, List.set_cons_succ])
        refine wpAnyH_take (i := 11) (v := .agg #[.int .i64 e.2.1, .slice V m d]) rfl (by kernel_rfl) (by kernel_rfl) (by kernel_rfl) (fun _ _ _ h => h) (Or.inl ⟨by kernel_rfl, fun wv hSw => by (obtain ⟨hS0, hS1, hS2, hS3⟩ := hSw); go_simp⟩) (by assumption) ?_
        (try simp only [Act.put, List.getElem_toArray, List.getElem_cons_zero, List.getElem_cons_succ, List.setIfInBounds_toArray, List.set_cons_zero, List.set_cons_succ])
        refine wpAnyH_ready (rs := [12]) (by kernel_rfl) (by simp) ?_
        refine AllReadyH.cons rfl (fun K hK => ?_) AllReadyH.nil
        go_simp
        refine (HC _ (Below.drew Tk)).mono ?_
        rintro e' wn ⟨rfl, hbn⟩
        rw [HCV.out]
        replace Tk := below_next (Below.drew Tk) hbn rfl
        go_wp2_with fail
        refine hK.out _ _ ⟨keepc Tk cc1, keepc Tk cc2, keepc Tk cb1, keepc Tk cb2⟩ (fun hHeld1 => ?_)
        clear hK K hHeld0
        (try simp only [Act.put, List.getElem_toArray, List.getElem_cons_zero, List.getElem_cons_succ, List.setIfInBounds_toArray, List.set_cons_zero, List.set_cons_succ])
        refine wpAnyH_take (i := 13) (v := .bool true) rfl (by kernel_rfl) (by kernel_rfl) (by kernel_rfl) (fun _ _ _ h => h) (Or.inl ⟨by kernel_rfl, fun _ _ => by go_simp⟩) (by assumption) ?_
        (try simp only [Act.put, List.getElem_toArray, List.getElem_cons_zero, List.getElem_cons_succ, List.setIfInBounds_toArray, List.set_cons_zero, List.set_cons_succ])
        refine wpAnyH_done (by kernel_rfl) ?_ _
        go_wp2_with fail
        go_roundw
        case rel => exact ⟨k + 1, by omega, by go_num, HPA.out.step HY.out HCV.out, below_next hT Tk rfl⟩
        case measure => simp [intOf]; omega
    · have hk0 : (0 : Int) ≤ (k : Int) := by omega
      have hk1 : ¬ (k : Int) < (xs.length : Int) := by omega
      have hk3 : (k : Int) ≤ (xs.length : Int) := by omega
      have HPO : Hid (posL e.2 xs = k) := HPA.out.done hlt
      go_wp2_with fail
      refine wp_region_held_drew (S := fun w' => w'.cell? ⟨w.heap.size, 1, none⟩ = some (.int .i64 e.2.1)) (by kernel_rfl) cb1 (fun hHeld0 => ?_)
      refine wpAnyH_take (i := 0) (v := .int .i64 k) rfl (by kernel_rfl) (by kernel_rfl) (by kernel_rfl) (fun _ _ _ h => h) (Or.inl ⟨by kernel_rfl, fun _ _ => by go_simp⟩) (by assumption) ?_
      (try simp only [Act.put, List.getElem_toArray, List.getElem_cons_zero, List.getElem_cons_succ, List.setIfInBounds_toArray, List.set_cons_zero, List.set_cons_succ])
      refine wpAnyH_take (i := 1) (v := .slice (some ⟨b, o, none⟩) xs.length c) rfl (by kernel_rfl) (by kernel_rfl) (by kernel_rfl) (fun _ _ _ h => h) (Or.inl ⟨by kernel_rfl, fun _ _ => by go_simp⟩) (by assumption) ?_
      (try simp only [Act.put, List.getElem_toArray, List.getElem_cons_zero, List.getElem_cons_succ, List.setIfInBounds_toArray, List.set_cons_zero, List.set_cons_succ])
      refine wpAnyH_take (i := 2) (v := .int .i64 xs.length) rfl (by kernel_rfl) (by kernel_rfl) (by kernel_rfl) (fun _ _ _ h => h) (Or.inl ⟨by kernel_rfl, fun _ _ => by go_simp⟩) (by assumption) ?_
      (try simp only [Act.put, List.getElem_toArray, List.getElem_cons_zero, List.getElem_cons_succ, List.setIfInBounds_toArray, List.set_cons_zero, List.set_cons_succ])
      refine wpAnyH_take (i := 3) (v := .bool false) rfl (by kernel_rfl) (by kernel_rfl) (by kernel_rfl) (fun _ _ _ h => h) (Or.inl ⟨by kernel_rfl, fun _ _ => by go_simp⟩) (by assumption) ?_
      (try simp only [Act.put, List.getElem_toArray, List.getElem_cons_zero, List.getElem_cons_succ, List.setIfInBounds_toArray, List.set_cons_zero, List.set_cons_succ])
      refine wpAnyH_take (i := 4) (v := .bool false) rfl (by kernel_rfl) (by kernel_rfl) (by kernel_rfl) (fun _ _ _ h => h) (Or.inl ⟨by kernel_rfl, fun _ _ => by go_simp⟩) (by assumption) ?_
      (try simp only [Act.put, List.getElem_toArray, List.getElem_cons_zero, List.getElem_cons_succ, List.setIfInBounds_toArray, List.set_cons_zero, List.set_cons_succ])
      refine wpAnyH_take (i := 5) (v := undef) rfl (by kernel_rfl) (by kernel_rfl) (by kernel_rfl) (fun _ _ _ h => h) (Or.inr ⟨by kernel_rfl, rfl⟩) (by assumption) ?_
      (try simp only [Act.put, List.getElem_toArray, List.getElem_cons_zero, List.getElem_cons_succ, List.setIfInBounds_toArray, List.set_cons_zero, List.set_cons_succ])
      refine wpAnyH_take (i := 6) (v := undef) rfl (by kernel_rfl) (by kernel_rfl) (by kernel_rfl) (fun _ _ _ h => h) (Or.inr ⟨by kernel_rfl, rfl⟩) (by assumption) ?_
      (try simp only [Act.put, List.getElem_toArray, List.getElem_cons_zero, List.getElem_cons_succ, List.setIfInBounds_toArray, List.set_cons_zero, List.set_cons_succ])
      refine wpAnyH_take (i := 7) (v := undef) rfl (by kernel_rfl) (by kernel_rfl) (by kernel_rfl) (fun _ _ _ h => h) (Or.inr ⟨by kernel_rfl, rfl⟩) (by assumption) ?_
      (try simp only [Act.put, List.getElem_toArray, List.getElem_cons_zero, List.getElem_cons_succ, List.setIfInBounds_toArray, List.set_cons_zero, List.set_cons_succ])
      refine wpAnyH_take (i := 8) (v := undef) rfl (by kernel_rfl) (by kernel_rfl) (by kernel_rfl) (fun _ _ _ h => h) (Or.inr ⟨by kernel_rfl, rfl⟩) (by assumption) ?_
      (try simp only [Act.put, List.getElem_toArray, List.getElem_cons_zero, List.getElem_cons_succ, List.setIfInBounds_toArray, List.set_cons_zero, List.set_cons_succ])
      refine wpAnyH_take (i := 9) (v := undef) rfl (by kernel_rfl) (by kernel_rfl) (by kernel_rfl) (fun _ _ _ h => h) (Or.inr ⟨by kernel_rfl, rfl⟩) (by assumption) ?_
      (try simp only [Act.put, List.getElem_toArray, List.getElem_cons_zero, List.getElem_cons_succ, List.setIfInBounds_toArray, List.set_cons_zero, List.set_cons_succ])
      refine wpAnyH_take (i := 10) (v := undef) rfl (by kernel_rfl) (by kernel_rfl) (by kernel_rfl) (fun _ _ _ h => h) (Or.inr ⟨by kernel_rfl, rfl⟩) (by assumption) ?_
      (try simp only [Act.put, List.getElem_toArray, List.getElem_cons_zero, List.getElem_cons_succ, List.setIfInBounds_toArray, List.set_cons_zero, List.set_cons_succ])
      refine wpAnyH_take (i := 11) (v := undef) rfl (by kernel_rfl) (by kernel_rfl) (by kernel_rfl) (fun _ _ _ h => h) (Or.inr ⟨by kernel_rfl, rfl⟩) (by assumption) ?_
      (try simp only [Act.put, List.getElem_toArray, List.getElem_cons_zero, List.getElem_cons_succ, List.setIfInBounds_toArray, List.set_cons_zero, List.set_cons_succ])
      refine wpAnyH_take (i := 12) (v := undef) rfl (by kernel_rfl) (by kernel_rfl) (by kernel_rfl) (fun _ _ _ h => h) (Or.inr ⟨by kernel_rfl, rfl⟩) (by assumption) ?_
      (try simp only [Act.put, List.getElem_toArray, List.getElem_cons_zero, List.getElem_cons_succ, List.setIfInBounds_toArray, List.set_cons_zero, List.set_cons_succ])
      refine wpAnyH_take (i := 13) (v := .bool false) rfl (by kernel_rfl) (by kernel_rfl) (by kernel_rfl) (fun _ _ _ h => h) (Or.inl ⟨by kernel_rfl, fun _ _ => by go_simp⟩) (by assumption) ?_
      (try simp only [Act.put, List.getElem_toArray, List.getElem_cons_zero, List.getElem_cons_succ, List.setIfInBounds_toArray, List.set_cons_zero, List.set_cons_succ])
      refine wpAnyH_done (by kernel_rfl) ?_ _
      go_upto_region 4 with fail
      replace Tk := Below.drew Tk
      obtain ⟨wz, HWZ⟩ : ∃ wz : World, wz = wr.drew := ⟨_, rfl⟩
      rw [← HWZ] at Tk ⊢
      clear HWZ
      have Tz := below_next hTw Tk rfl
      have cz0 := (BP.next (below_next hT Tk rfl)).cell 0
      have cz1 := (BP.next (below_next hT Tk rfl)).cell 1
      have cz2 := (BP.next (below_next hT Tk rfl)).cell 2
      simp at cz0 cz1 cz2
      have N1 : Hid (∀ (j : Nat) u, (css.take k).flatten[j]? = some u → wz.cell? ((⟨b, o, none⟩ : Addr).add j) = some u) := fun j u hu => by
        have h9 := raw_cells HALL.out HCELL.out 0 k j u (by rw [List.drop_zero]; exact hu)
        rw [Nat.zero_mul, Nat.add_zero] at h9
        exact keepc Tz h9
      obtain ⟨ad, HIF, N3⟩ : ∃ ad, Hid ((if c = k then some (⟨b, o, none⟩ : Addr) else some ⟨b, o + k * 3, none⟩) = some ad) ∧ Hid (∀ (j : Nat) u, (css.drop k).flatten[j]? = some u → wz.cell? (ad.add j) = some u) := by
        by_cases hq : c = k
        · refine ⟨⟨b, o, none⟩, if_pos hq, fun j u hu => ?_⟩
          have e0 : css.drop k = [] := List.drop_eq_nil_of_le (by omega)
          rw [e0] at hu
          simp at hu
        · refine ⟨_, if_neg hq, fun j u hu => keepc Tz (raw_cells HALL.out HCELL.out k (xs.length - k) j u ?_)⟩
          rw [List.take_of_length_le (by rw [List.length_drop, hcl]; omega)]
          exact hu
      have HLT : Hid ((css.take k).flatten.length = k * 3) := by show _ = _; rw [flat_len (m := 3) fun c hc => HALL.out c (List.mem_of_mem_take hc), List.length_take, Nat.min_eq_left (by omega)]
      have HL1 : Hid ((css.drop k).flatten.length = (xs.length - k) * 3) := by show _ = _; rw [flat_len (m := 3) fun c hc => HALL.out c (List.mem_of_mem_drop hc), List.length_drop, hcl]
      have HOT : Hid (∀ u ∈ (css.take k).flatten, u.oneCell' = true) := fun u hu => by
        obtain ⟨c, hc, hu⟩ := List.mem_flatten.1 hu
        exact HONE.out c (List.mem_of_mem_take hc) u hu
      have HON : Hid (∀ u ∈ (css.drop k).flatten, u.oneCell' = true) := fun u hu => by
        obtain ⟨c, hc, hu⟩ := List.mem_flatten.1 hu
        exact HONE.out c (List.mem_of_mem_drop hc) u hu
      have hkc : (k : Int) ≤ (c : Int) := by omega
      go_wp2_with (at_builtin; refine appN _ rfl (.tmp 24) (.tmp 27) 24 33 rfl (.agg #[.string ⟨#[]⟩, .int .i64 0, .slice none 0 0]) 48 Try.underlying24 info_entry3 rfl (by decide) wz.heap.size 0 0 _ [] (by rfl) (by exact own_lit wz) ⟨b, o, none⟩ k c (css.take k).flatten (by rfl) HLT.out (fun j u hu => by exact keepc (below_box wz _) (N1.out j u hu)) HOT.out (by omega) (by simp) ?_; intro A4 c4 w4 hown4 hg4 hb4; simp only [Nat.zero_add, List.nil_append] at hown4 ⊢)
      have T4 : Below wz.heap.size wz w4 := (below_box wz _).trans hb4
      have T4w := below_next Tz T4 rfl
      have cy0 := keepc T4 cz0
      have cy1 := keepc T4 cz1
      have cy2 := keepc T4 cz2
      clear cz0 cz1 cz2
      go_region_law (first
        | (refine step_appN _ rfl (.tmp 29) (.tmp 31) 24 33 rfl (.agg #[.string ⟨#[]⟩, .int .i64 0, .slice none 0 0]) 48 Try.underlying24 info_entry3 rfl (by decide) wz.heap.size k c4 A4 (css.take k).flatten (by rfl) (by exact hown4.alloc _) ⟨w4.heap.size, 0, none⟩ 1 1 [.string e.1, .int .i64 e.2.1, .slice V m d] (by rfl) rfl (fun j u hu => by first | exact new_cells w4 _ _ j u hu | exact keepc (Below.drew (Below.refl _ _)) (new_cells w4 _ _ j u hu)) (by simp [Value.oneCell']) (by omega) (by have := T4.size; simp; omega) ?_; intro A5 c5 w5 hown5 hg5 hb5; have T5 : Below wz.heap.size wz w5 := (by first | exact (below_next T4 (below_box w4 _) rfl).trans hb5 | exact (Below.drew (below_next T4 (below_box w4 _) rfl)).trans hb5))
        | (refine step_appN _ rfl (.tmp 32) (.tmp 35) 24 33 rfl (.agg #[.string ⟨#[]⟩, .int .i64 0, .slice none 0 0]) 48 Try.underlying24 info_entry3 rfl (by decide) wz.heap.size (k + 1) c5 A5 ((css.take k).flatten ++ [.string e.1, .int .i64 e.2.1, .slice V m d]) (by rfl) (by exact hown5) ad (xs.length - k) (c - k) (css.drop k).flatten (by show Value.slice (if c = k then _ else _) _ _ = _; rw [HIF.out]) HL1.out (fun j u hu => by exact keepc T5 (N3.out j u hu)) HON.out (by omega) (by exact T5.size) ?_; intro A6 c6 w6 hown6 hg6 hb6; have T6 := T5.trans hb6))
      all_goals
        have T6w := below_next Tz T6 rfl
        have hn6 : k + 1 + (xs.length - k) = (insM xs e).length := by rw [insM_len]; omega
        rw [hn6] at hown6 ⊢
        obtain ⟨g6, rfl, -, hnc6⟩ := own_formE hown6 (by rw [insM_len]; omega)
        have hr6 := put_read (w := w) (w6 := w6) hcl hk HALL.out HRD.out hre T6w HPO.out hown6
        have HR6 := Lib.hid hr6
        have HO6 := Lib.hid (own_mono hown6 Tz.size)
        obtain ⟨ys, HYS⟩ : ∃ ys, Hid (insM xs e = ys) := ⟨_, rfl⟩
        rw [HYS.out] at hr6 hnc6 HR6 HO6 ⊢
        clear hown6 hg6 hb6 hown5 hg5 hb5 hown4 hg4 hb4 hr6
        go_wp2_with fail
        all_goals
          refine (l31Good_any _ _ _ ys _ HR6.out).mono ?_
          rintro e' w7 ⟨rfl, hb7⟩
          have HO7 := Lib.hid (own_next HO6.out hb7)
          go_wp2_with fail
          all_goals
            go_ret2
            rw [HYS.out]
            exact ⟨g6, c6, css, k, rfl, hnc6, below_next T6w hb7 rfl, hk, HPO.out, hcl, HALL.out, HCELL.out, HRD.out, HO7.out⟩
theorem l31Put_any (b o c : Nat) (xs : List EntryM) (e : EntryM) (V : Option Addr) (m d : Nat) (w : World)
    (h : RdN shEntry.m shEntry.rd w (some ⟨b, o, none⟩) xs.length xs) (hgc : xs.length ≤ c) (hre : shEntry.rd w [.string e.1, .int .i64 e.2.1, .slice V m d] e)
    (hS : ∀ x ∈ xs, SmallP x.2) (he : SmallP e.2) (hl : xs.length ≤ 1048575) :
    Calls Try.prog 49 #[.slice (some ⟨b, o, none⟩) xs.length c, .agg #[.string e.1, .int .i64 e.2.1, .slice V m d]] w (PutR w (insM xs e)) := by
  refine (l31PutO_any b o c xs e V m d w h hgc hre hS he hl).mono ?_
  rintro e' w' ⟨g, c', css, k, rfl, hc, hb, hk, hp, hcl, hall, -, hrd, hown⟩
  exact ⟨g, c', rfl, hc, put_read hcl hk hall hrd hre hb hp hown, hb⟩
end Go.Proofs.Ytkmgbdljiajlaaa
namespace Go.Proofs.Ytkmgbdljiajlaaa
open Go.RowKit
set_option linter.unusedVariables false
set_option linter.unusedSimpArgs false

/-- Worlds that agree from the block L on, apart from the block g and from rows of entries. -/
structure AgE (g L : Nat) (w w' : World) : Prop where
  size : w.heap.size ≤ w'.heap.size
  block : ∀ b, b < w.heap.size → L ≤ b → b ≠ g → (∀ cur fr, w.heap[b]? ≠ some (.cells cur 33 fr)) → w'.heap[b]? = w.heap[b]?
theorem AgE.refl (g L : Nat) (w : World) : AgE g L w w := ⟨Nat.le_refl _, fun _ _ _ _ _ => rfl⟩
theorem AgE.trans {g L : Nat} {w w1 w2 : World} (h : AgE g L w w1) (k : AgE g L w1 w2) : AgE g L w w2 :=
  ⟨Nat.le_trans h.size k.size, fun b hb hL hg hn => by
    have e1 := h.block b hb hL hg hn
    exact (k.block b (Nat.lt_of_lt_of_le hb h.size) hL hg (fun cur fr => by rw [e1]; exact hn cur fr)).trans e1⟩
theorem AgE.mono {g L L' : Nat} {w w' : World} (h : AgE g L' w w') (hl : L' ≤ L) : AgE g L w w' := ⟨h.size, fun b hb hL hg hn => h.block b hb (by omega) hg hn⟩
theorem AgE.grown {g L : Nat} {w w' : World} (h : w.grownBy w' (some g)) : AgE g L w w' := ⟨h.size, fun b hb _ hg _ => h.block b hb fun e => hg (by injection e)⟩
theorem AgE.next {g L : Nat} {w w' : World} (h : Below w.heap.size w w') : AgE g L w w' := ⟨h.size, fun b hb _ _ _ => h.block b hb⟩
theorem AgE.low {g L : Nat} (w : World) {p : Addr} (hp : p.block < L) (v : Value) : AgE g L w (w.setCell p v) := ⟨by simp, fun b hb hL _ _ => Below.heap_setCell w p v b (by omega)⟩
theorem AgE.row {g L lo size n : Nat} {w w' : World} {v : Value} {xs : List Value} (h : w.ownsRow lo 33 size v n xs) (hg : w.grownBy w' v.ownBlock) : AgE g L w w' :=
  ⟨hg.size, fun b hb _ _ hn => hg.block b hb fun e => by
    obtain ⟨cur, fr, hc⟩ := row_blk h (mem_obl.2 e.symm)
    exact hn cur fr hc⟩
/-- What holds in all these worlds. -/
def FarE (g L : Nat) (w : World) (P : World → Prop) : Prop := ∀ w', AgE g L w w' → P w'
theorem FarE.self {g L : Nat} {w : World} {P : World → Prop} (h : FarE g L w P) : P w := h w (AgE.refl g L w)
theorem FarE.go {g L : Nat} {w w' : World} {P : World → Prop} (h : FarE g L w P) (k : AgE g L w w') : FarE g L w' P := fun w2 k2 => h w2 (k.trans k2)
theorem FarE.mono {g L L' : Nat} {w : World} {P : World → Prop} (h : FarE g L w P) (hl : L' ≤ L) : FarE g L' w P := fun w2 k2 => h w2 (k2.mono hl)
theorem FarE.ent {g L : Nat} {w : World} {cs : List Value} {x : EntryM} {bl : List Nat} (h : shEntry.own w cs x bl) (hg : ∀ b ∈ bl, L ≤ b ∧ b ≠ g) : FarE g L w fun w => shEntry.rd w cs x := fun w' k =>
  shEntry.ord (shEntry.osame h fun b hb => k.block b (shEntry.olt h b hb) (hg b hb).1 (hg b hb).2 fun cur fr e => by
    obtain ⟨cur2, t, fr2, e2, ht⟩ := shEntry_blk h hb
    rw [e2] at e
    injection e with e
    injection e with _ e _
    exact ht e)
/-- A row of entries of the call's own, whose models may share. -/
def EnS (g lo : Nat) (w : World) (q c : Nat) (xs : List EntryM) (css : List (List Value)) : Prop :=
  w.ownsRow lo 33 3 (.slice (some ⟨q, 0, none⟩) xs.length c) xs.length css.flatten ∧ css.length = xs.length ∧ (∀ c ∈ css, c.length = 3) ∧ ∀ (k : Nat) cs x, css[k]? = some cs → xs[k]? = some x → FarE g lo w fun w => shEntry.rd w cs x
section
variable {g lo q c : Nat} {w w' : World} {xs : List EntryM} {css : List (List Value)}
theorem EnS.rdN (h : EnS g lo w q c xs css) : RdN shEntry.m shEntry.rd w (some ⟨q, 0, none⟩) xs.length xs :=
  rdE_of_rows h.1 h.2.2.1 h.2.1 rfl fun k cs x a b => (h.2.2.2 k cs x a b).self
theorem EnS.row (h : EnS g lo w q c xs css) : lo ≤ q ∧ q < w.heap.size := h.1.lt q rfl
theorem EnS.cap (h : EnS g lo w q c xs css) : xs.length ≤ c := by
  rcases h.1.2 with ⟨h0, h1⟩ | ⟨g', cap, cur, hv, hb, hh, hnc, _⟩
  · cases h0
  · injection hv with hA _ hc
    subst hc
    exact hnc
theorem EnS.go (h : EnS g lo w q c xs css) (hg : w.grownBy w' (some g)) (hl : g < lo) : EnS g lo w' q c xs css :=
  ⟨own_grownG h.1 hg hl, h.2.1, h.2.2.1, fun k cs x a b => (h.2.2.2 k cs x a b).go (AgE.grown hg)⟩
theorem EnS.next (h : EnS g lo w q c xs css) (hb : Below w.heap.size w w') : EnS g lo w' q c xs css :=
  ⟨own_next h.1 hb, h.2.1, h.2.2.1, fun k cs x a b => (h.2.2.2 k cs x a b).go (AgE.next hb)⟩
theorem EnS.low (h : EnS g lo w q c xs css) {p : Addr} (hp : p.block < lo) (v : Value) : EnS g lo (w.setCell p v) q c xs css :=
  ⟨own_same h.1 fun b hb => Below.heap_setCell w p v b (by have := (h.1.lt b hb).1; omega), h.2.1, h.2.2.1, fun k cs x a b => (h.2.2.2 k cs x a b).go (AgE.low w hp v)⟩
theorem EnS.mono {lo' : Nat} (h : EnS g lo w q c xs css) (hl : lo' ≤ lo) : EnS g lo' w q c xs css := ⟨own_mono h.1 hl, h.2.1, h.2.2.1, fun k cs x a b => (h.2.2.2 k cs x a b).mono hl⟩
theorem EnS.lit {lo : Nat} (w : World) (hlo : lo ≤ w.heap.size) : EnS g lo (w.alloc (.cells #[] 33)) w.heap.size 0 [] [] :=
  ⟨own_mono (own_lit w) hlo, rfl, fun c hc => by simp at hc, fun k cs x hk => by simp at hk⟩
theorem EnS.cells (h : EnS g lo w q c xs css) {k : Nat} {cs : List Value} (hk : css[k]? = some cs) {i : Nat} {v : Value} (hi : cs[i]? = some v) : w.cell? ⟨q, k * 3 + i, none⟩ = some v := by
  have hkl := (List.getElem?_eq_some_iff.1 hk).1
  have hil := (List.getElem?_eq_some_iff.1 hi).1
  have h3 := h.2.2.1 cs (List.mem_of_getElem? hk)
  have hlen : css.flatten.length = xs.length * 3 := h.1.1
  have hl := h.2.1
  rw [h.1.cellAt (k * 3 + i) (by omega), flat_get (m := 3) h.2.2.1 k i (by omega), hk]
  exact hi
/-- Rows that memory determines. -/
theorem EnS.det (h : EnS g lo w q c xs css) {ds : List (List Value)} (hl : ds.length = xs.length) (hall : ∀ c ∈ ds, c.length = 3)
    (hc : ∀ (k : Nat) cs, ds[k]? = some cs → ∀ (i : Nat) v, cs[i]? = some v → w.cell? ⟨q, 0 + k * 3 + i, none⟩ = some v) : ds = css := by
  have hl2 := h.2.1
  refine List.ext_getElem (by omega) fun k h1 h2 => ?_
  have e1 : ds[k]? = some ds[k] := List.getElem?_eq_getElem h1
  have e2 : css[k]? = some css[k] := List.getElem?_eq_getElem h2
  have l1 := hall _ (List.getElem_mem h1)
  have l2 := h.2.2.1 _ (List.getElem_mem h2)
  refine List.ext_getElem (by omega) fun i i1 i2 => ?_
  have a1 := hc k _ e1 i _ (List.getElem?_eq_getElem i1)
  have a2 := h.cells e2 (List.getElem?_eq_getElem i2)
  rw [Nat.zero_add] at a1
  rw [a1] at a2
  injection a2
theorem EnS.put {E : Ending} {e : EntryM} {ce : List Value} (h : EnS g lo w q c xs css) (he : FarE g lo w fun w => shEntry.rd w ce e) (hp : PutO w (insM xs e) q 0 xs e ce E w') :
    ∃ q' c' css', E = .returned (.tuple #[.slice (some ⟨q', 0, none⟩) (insM xs e).length c', .bool (catB (insM xs e))]) ∧ EnS g lo w' q' c' (insM xs e) css' ∧ Below w.heap.size w w' := by
  obtain ⟨g', c', ds, k, rfl, hc, hb, hk, hpos, hl, hall, hcell, hrd, hown⟩ := hp
  obtain rfl := h.det hl hall hcell
  have hce := shEntry.rd_len he.self
  have ef : (ds.take k).flatten ++ ce ++ (ds.drop k).flatten = (ds.take k ++ ce :: ds.drop k).flatten := by rw [with_flat, List.append_assoc]
  rw [ef] at hown
  refine ⟨g', c', ds.take k ++ ce :: ds.drop k, rfl, ⟨own_mono hown (by have := h.row; omega), ?_, fun c hc => ?_, fun j cs x h1 h2 => ?_⟩, hb⟩
  · rw [insM_len]; simp; omega
  · rcases List.mem_append.1 hc with hc | hc
    · exact hall c (List.mem_of_mem_take hc)
    · rcases List.mem_cons.1 hc with rfl | hc
      · exact hce
      · exact hall c (List.mem_of_mem_drop hc)
  · rw [insM_at hpos] at h2
    rw [ins_get (by omega)] at h1 h2
    by_cases q1 : j < k
    · rw [if_pos q1] at h1 h2
      exact (h.2.2.2 j cs x h1 h2).go (AgE.next hb)
    · rw [if_neg q1] at h1 h2
      by_cases q2 : j = k
      · rw [if_pos q2] at h1 h2
        injection h1 with h1
        injection h2 with h2
        subst h1
        subst h2
        exact he.go (AgE.next hb)
      · rw [if_neg q2] at h1 h2
        exact (h.2.2.2 _ cs x h1 h2).go (AgE.next hb)
theorem flat_set {m : Nat} : ∀ {css : List (List Value)}, (∀ c ∈ css, c.length = m) → ∀ (k i : Nat) (cs : List Value) (v : Value), css[k]? = some cs → i < m → css.flatten.set (k * m + i) v = (css.set k (cs.set i v)).flatten
  | [], _, k, i, cs, v, hk, _ => by simp at hk
  | c :: css, hall, 0, i, cs, v, hk, hi => by
    simp at hk
    subst hk
    rw [Nat.zero_mul, Nat.zero_add, List.set_cons_zero, List.flatten_cons, List.flatten_cons, List.set_append_left _ _ (by rw [hall c (List.mem_cons_self ..)]; exact hi)]
  | c :: css, hall, k + 1, i, cs, v, hk, hi => by
    have hc := hall c (List.mem_cons_self ..)
    rw [List.set_cons_succ, List.flatten_cons, List.flatten_cons, List.set_append_right _ _ (by rw [hc, Nat.succ_mul]; omega), hc]
    rw [show (k + 1) * m + i - m = k * m + i by rw [Nat.succ_mul]; omega, flat_set (fun c hc => hall c (List.mem_cons_of_mem _ hc)) k i cs v (by simpa using hk) hi]
/-- One entry is replaced. -/
theorem EnS.sets {k : Nat} {ce : List Value} {e : EntryM} (h : EnS g lo w q c xs css) (hg : AgE g lo w w') (hown : w'.ownsRow lo 33 3 (.slice (some ⟨q, 0, none⟩) xs.length c) xs.length (css.set k ce).flatten) (he : FarE g lo w' fun w => shEntry.rd w ce e) :
    EnS g lo w' q c (xs.set k e) (css.set k ce) := by
  refine ⟨by rw [List.length_set]; exact hown, by rw [List.length_set, List.length_set]; exact h.2.1, fun c hc => ?_, fun j cs x h1 h2 => ?_⟩
  · rcases List.mem_or_eq_of_mem_set hc with hc | rfl
    · exact h.2.2.1 c hc
    · exact shEntry.rd_len he.self
  · by_cases q1 : k = j
    · subst q1
      rw [List.getElem?_set_self'] at h1 h2
      obtain ⟨_, -, rfl⟩ := Option.map_eq_some_iff.1 h1
      obtain ⟨_, -, rfl⟩ := Option.map_eq_some_iff.1 h2
      exact he
    · rw [List.getElem?_set_ne q1] at h1 h2
      exact (h.2.2.2 j cs x h1 h2).go hg
/-- One entry more. -/
theorem EnS.push {q' c' : Nat} {ce : List Value} {e : EntryM} (h : EnS g lo w q c xs css) (hg : AgE g lo w w') (hown : w'.ownsRow lo 33 3 (.slice (some ⟨q', 0, none⟩) (xs.length + 1) c') (xs.length + 1) (css.flatten ++ ce)) (he : FarE g lo w' fun w => shEntry.rd w ce e) :
    EnS g lo w' q' c' (xs ++ [e]) (css ++ [ce]) := by
  have hl := h.2.1
  refine ⟨by rw [List.length_append, List.flatten_append]; simpa using hown, by simp [hl], fun c hc => ?_, fun j cs x h1 h2 => ?_⟩
  · rcases List.mem_append.1 hc with hc | hc
    · exact h.2.2.1 c hc
    · rw [List.mem_singleton.1 hc]
      exact shEntry.rd_len he.self
  · by_cases q1 : j < xs.length
    · rw [List.getElem?_append_left (by omega)] at h1 h2
      exact (h.2.2.2 j cs x h1 h2).go hg
    · have q2 : j = xs.length := by
        have := (List.getElem?_eq_some_iff.1 h2).1
        simp at this
        omega
      subst q2
      rw [List.getElem?_append_right (by omega)] at h1 h2
      simp [hl] at h1 h2
      subst h1
      subst h2
      exact he
end
/-- What is said of a drawn list of entries. -/
def EntQ (x : EntryM) : Prop := x.1.size ≤ 20 ∧ AlgQ x.2
def EnD (B : Nat) (w : World) (g t : Nat) (e : Ending) (w' : World) : Prop :=
  ∃ q c xs css, e = .returned (.slice (some ⟨q, 0, none⟩) xs.length c) ∧ EnS g w.heap.size w' q c xs css ∧ xs.length ≤ 12 ∧ (∀ x ∈ xs, EntQ x) ∧ CurB B w' g t ∧ w.grownBy w' (some g)
section
variable {B g lo q c t : Nat} {w w0 w' : World} {xs : List EntryM} {css : List (List Value)}
/-- A cell of a row of entries is written: what else stands. -/
theorem EnS.stored (h : EnS g lo w q c xs css) {k i : Nat} {cs : List Value} (hk : css[k]? = some cs) (hi : i < 3) (v : Value) :
    (w.setCell ⟨q, k * 3 + i, none⟩ v).ownsRow lo 33 3 (.slice (some ⟨q, 0, none⟩) xs.length c) xs.length (css.set k (cs.set i v)).flatten ∧ w.grownBy (w.setCell ⟨q, k * 3 + i, none⟩ v) (some q) := by
  have hs := h.1.stored (k * 3 + i) v
  rw [flat_set (m := 3) h.2.2.1 k i cs v hk hi] at hs
  exact hs
/-- The three cells of an entry are written. -/
theorem EnS.stored3 (h : EnS g lo w q c xs css) {k : Nat} {cs : List Value} (hk : css[k]? = some cs) (h3 : cs.length = 3) (u v z : Value) {p0 p1 p2 : Nat} (e0 : p0 = k * 3) (e1 : p1 = k * 3 + 1) (e2 : p2 = k * 3 + 2) :
    (((w.setCell ⟨q, p0, none⟩ u).setCell ⟨q, p1, none⟩ v).setCell ⟨q, p2, none⟩ z).ownsRow lo 33 3 (.slice (some ⟨q, 0, none⟩) xs.length c) xs.length (css.set k [u, v, z]).flatten ∧ w.grownBy (((w.setCell ⟨q, p0, none⟩ u).setCell ⟨q, p1, none⟩ v).setCell ⟨q, p2, none⟩ z) (some q) := by
  subst e0
  subst e1
  subst e2
  have hkl := (List.getElem?_eq_some_iff.1 hk).1
  have hall : ∀ d : List Value, d.length = 3 → ∀ c ∈ css.set k d, c.length = 3 := fun d hd c hc => by
    rcases List.mem_or_eq_of_mem_set hc with hc | rfl
    · exact h.2.2.1 c hc
    · exact hd
  obtain ⟨s0, g0⟩ := h.stored hk (i := 0) (by decide) u
  obtain ⟨s1, g1⟩ := World.ownsRow.stored s0 (k * 3 + 1) v
  rw [flat_set (m := 3) (hall _ (by rw [List.length_set]; exact h3)) k 1 (cs.set 0 u) v (by rw [List.getElem?_set_self hkl]) (by decide), List.set_set] at s1
  obtain ⟨s2, g2⟩ := World.ownsRow.stored s1 (k * 3 + 2) z
  rw [flat_set (m := 3) (hall _ (by rw [List.length_set, List.length_set]; exact h3)) k 2 ((cs.set 0 u).set 1 v) z (by rw [List.getElem?_set_self hkl]) (by decide), List.set_set] at s2
  obtain ⟨a, b, d, rfl⟩ : ∃ a b d, cs = [a, b, d] := by
    match cs, h3 with
    | [a, b, d], _ => exact ⟨a, b, d, rfl⟩
  exact ⟨s2, grown_transB (grown_transB g0 g1) g2⟩
theorem EnS.ag (h : EnS g lo w q c xs css) (hg : w.grownBy w' (some q)) : AgE g lo w w' := AgE.row h.1 hg
theorem FarE.name {cs : List Value} {y : EntryM} {s : ByteArray} {u : Value} (h : FarE g lo w fun w => shEntry.rd w cs y) (hs : s.size ≤ maxLen) (hu : u = .string s) : FarE g lo w fun w => shEntry.rd w (cs.set 0 u) (s, y.2) := fun w' k => by
  subst hu
  obtain ⟨A, n, c, rfl, -, h2, h3⟩ := rdEntry (h w' k)
  exact entR hs (mkAlgebra (x := y.2) h2 h3)
theorem FarE.model {cs da : List Value} {y : EntryM} {x : AlgebraM} {bl : List Nat} {l2 hi : Nat} (h : FarE g lo w fun w => shEntry.rd w cs y) (ho : shAlgebra.own w da x bl) (hI : Iv l2 hi bl) (hl : lo ≤ l2) (hg : g < l2) (hk : AgE g lo w w') :
    ∃ A n c, da = [.int .i64 x.1, .slice A n c] ∧ FarE g lo w' fun w => shEntry.rd w [.string y.1, .int .i64 x.1, .slice A n c] (y.1, x) := by
  obtain ⟨A, n, c, rfl, -, -⟩ := rdAlgebra (shAlgebra.ord ho)
  obtain ⟨B, m, d, rfl, h1, h2, h3⟩ := rdEntry h.self
  exact ⟨A, n, c, rfl, (FarE.ent (ent_own h1 ho) fun b hb => by have := (hI.2 b hb).1; exact ⟨by omega, by omega⟩).go hk⟩
theorem FarE.bare {w : World} {s : ByteArray} {n : Nat} (hs : s.size ≤ maxLen) (hn : n ≤ 1000) : FarE g lo w fun w => shEntry.rd w [.string s, .int .i64 (n : Int), .slice none 0 0] (s, ((n : Int), [])) := fun w' _ =>
  entR (a := ((n : Int), [])) hs (mkAlgebra (x := ((n : Int), [])) ⟨by show _ ≤ (n : Int); omega, by show (n : Int) ≤ _; omega⟩ ⟨rfl, by omega, fun k x hk => by simp at hk⟩)
theorem algQ_bare {n : Nat} (hn : n ≤ 9) : AlgQ ((n : Int), []) := ⟨by show (0 : Int) ≤ (n : Int); omega, by show (n : Int) ≤ 9; omega, by show 0 + (0 + cntS shOp.cnt []) ≤ 10000; simp [cntS]⟩
/-- The answer of a drawn list. -/
theorem EnD.mk {t' : Nat} (hE : EnS g w0.heap.size w' q c xs css) (hl : xs.length ≤ 12) (hQ : ∀ x ∈ xs, EntQ x) (hc : CurB B w' g t) (hg : w0.grownBy w' (some g)) (ht : t ≤ t') : EnD B w0 g t' (.returned (.slice (some ⟨q, 0, none⟩) xs.length c)) w' :=
  ⟨q, c, xs, css, rfl, hE, hl, hQ, hc.mono ht, hg⟩
end
end Go.Proofs.Ytkmgbdljiajlaaa
namespace Go.Proofs.Ytkmgbdljiajlaaa
open Go.RowKit
set_option linter.unusedVariables false
set_option linter.unusedSimpArgs false

/-- A list of texts that may be picked from. -/
def TextsP (w : World) (g b n M : Nat) : Prop := b ≠ g ∧ 0 < n ∧ n ≤ 1000 ∧ ∀ i, i < n → ∃ s : ByteArray, s.size ≤ M ∧ w.cell? ⟨b, i, none⟩ = some (.string s)
set_option maxHeartbeats 1000000 in
theorem ofB_any (B g t b n c M : Nat) (w : World) (h : CurB B w g t) (ht : t ≤ 999999998) (hl : TextsP w g b n M) :
    Calls Try.prog 78 #[.pointer (some ⟨g, 0, none⟩), .slice (some ⟨b, 0, none⟩) n c] w (fun e w' => ∃ s : ByteArray, s.size ≤ M ∧ e = .returned (.string s) ∧ CurB B w' g (t + 2) ∧ w.grownBy w' (some g)) := by
  obtain ⟨hbg, hn0, hn1, hc⟩ := hl
  go_enter Try.func78, Try.ntmps78
  go_wp2_with fail
  refine (pickB_any g t n _ h ht (by omega)).mono ?_
  rintro e w1 ⟨x, hx, rfl, hc1, hg1⟩
  have hxn : x < n := by omega
  have hx0 : (0 : Int) ≤ (x : Int) := by omega
  have hx1 : (x : Int) < (n : Int) := by omega
  obtain ⟨s, hs, hcs⟩ := hc x hxn
  have hcs1 : w1.cell? ⟨b, x, none⟩ = some (.string s) := (World.cell?_of_block (hg1.block b (cell_lt hcs) (by simpa using hbg))).trans hcs
  clear hx
  go_wp2_with fail
  go_ret
  exact ⟨s, hs, rfl, hc1, hg1⟩
theorem textsL (L : List ByteArray) (M : Nat) (w : World) (g : Nat) (hg : g < w.heap.size) (k : Nat) (h0 : 0 < k) (h1 : k ≤ L.length) (h2 : L.length ≤ 1000) (hP : ∀ s ∈ L, s.size ≤ M) {T : TypeId} : TextsP (w.alloc (.cells (L.map Value.string).toArray T)) g w.heap.size k M := by
  refine ⟨by omega, h0, by omega, fun i hi => ?_⟩
  have hc := (Blk.new w T (L.map Value.string).toArray).cell i
  refine ⟨L[i]'(by omega), hP _ (List.getElem_mem _), ?_⟩
  rw [hc]
  simp [show i < L.length by omega]
theorem TextsP.grown {w w' : World} {g b n M : Nat} (h : TextsP w g b n M) (hg : w.grownBy w' (some g)) : TextsP w' g b n M :=
  ⟨h.1, h.2.1, h.2.2.1, fun i hi => by
    obtain ⟨s, hs, hc⟩ := h.2.2.2 i hi
    exact ⟨s, hs, (World.cell?_of_block (hg.block b (cell_lt hc) (by simpa using h.1))).trans hc⟩⟩
/-- A drawn text. -/
def StrD (B : Nat) (w : World) (g t M : Nat) (e : Ending) (w' : World) : Prop := ∃ s : ByteArray, s.size ≤ M ∧ e = .returned (.string s) ∧ CurB B w' g t ∧ w.grownBy w' (some g)
set_option maxRecDepth 20000 in
set_option maxHeartbeats 4000000 in
theorem name31_any (B g t : Nat) (w : World) (h : CurB B w g t) (ht : t ≤ 999999000) :
    Calls Try.prog 38 #[.pointer (some ⟨g, 0, none⟩)] w (StrD B w g (t + 4) 20) := by
  have hgl := h.lt
  obtain ⟨w1, HW1⟩ : ∃ x, Hid (x = w.alloc (.cells #[.string ⟨#[97, 108, 112, 104, 97]⟩, .string ⟨#[98, 101, 116, 97]⟩, .string ⟨#[103, 97, 109, 109, 97]⟩, .string ⟨#[100, 101, 108, 116, 97]⟩, .string ⟨#[122, 101, 116, 97]⟩, .string ⟨#[122, 101, 116, 97]⟩, .string ⟨#[97, 120]⟩, .string ⟨#[]⟩, .string ⟨#[90, 101, 116, 97]⟩, .string ⟨#[97, 98, 99, 100, 101, 102, 103, 104, 105, 106, 107]⟩] 9)) := ⟨_, Lib.hid rfl⟩
  have hb1 : Below w.heap.size w w1 := by rw [HW1.out]; exact below_box _ _
  have HTX : Hid (∀ k, 0 < k → k ≤ 10 → TextsP w1 g w.heap.size k 20) := fun k h0 h1 => by
    rw [HW1.out]
    exact textsL [⟨#[97, 108, 112, 104, 97]⟩, ⟨#[98, 101, 116, 97]⟩, ⟨#[103, 97, 109, 109, 97]⟩, ⟨#[100, 101, 108, 116, 97]⟩, ⟨#[122, 101, 116, 97]⟩, ⟨#[122, 101, 116, 97]⟩, ⟨#[97, 120]⟩, ⟨#[]⟩, ⟨#[90, 101, 116, 97]⟩, ⟨#[97, 98, 99, 100, 101, 102, 103, 104, 105, 106, 107]⟩] 20 w g hgl k h0 h1 (by decide) (by decide)
  have HPK := Lib.hid (pickB_any g t 24 w1 (h.next_ hb1) (by omega) (by omega))
  go_enter Try.func38, Try.ntmps38
  go_wp2_with fail
  rw [← HW1.out]
  refine HPK.out.mono ?_
  rintro e w2 ⟨x, hx, rfl, hc2, hg2⟩
  obtain ⟨q, HQ⟩ : ∃ q, Hid (x / 7 = q) := ⟨_, Lib.hid rfl⟩
  have hq3 : q ≤ 3 := by have := HQ.out; omega
  have hx0 : (0 : Int) ≤ (x : Int) := by omega
  have f1 : (x : Int) / 7 = (q : Int) := by have := HQ.out; omega
  have f1t : (x : Int).tdiv 7 = (q : Int) := by rw [Int.tdiv_eq_ediv_of_nonneg hx0]; exact f1
  have f2 : IntKind.i64.wrap (q : Int) = (q : Int) := by rw [IntKind.wrap_i64]; omega
  obtain ⟨k, HK⟩ : ∃ k, Hid (7 + q = k) := ⟨_, Lib.hid rfl⟩
  have hk7 : 7 ≤ k ∧ k ≤ 10 := by have := HK.out; omega
  have f3 : 7 + (q : Int) = (k : Int) := by have := HK.out; omega
  have f4 : IntKind.i64.wrap (k : Int) = (k : Int) := by rw [IntKind.wrap_i64]; omega
  have hk0 : (0 : Int) ≤ (k : Int) := by omega
  have hk1 : (k : Int) ≤ 10 := by omega
  have HOF := Lib.hid (ofB_any B g (t + 2) w.heap.size k 10 20 w2 hc2 (by omega) ((HTX.out k (by omega) hk7.2).grown hg2))
  have hgr := growB_trans (toGr (r := some g) hb1) hg2
  clear HPK hx hg2 hc2
  go_wp2_with fail
  refine HOF.out.mono ?_
  rintro e w3 ⟨s, hs, rfl, hc3, hg3⟩
  go_wp2_with fail
  go_ret
  exact ⟨s, hs, rfl, hc3, growB_trans hgr hg3⟩
end Go.Proofs.Ytkmgbdljiajlaaa
namespace Go.Proofs.Ytkmgbdljiajlaaa
open Go.RowKit

def bls (L : List Bool) : List Value := L.map fun b => .bool b
theorem bls_get {L : List Bool} {y : Nat} (h : y < L.length) : (bls L)[y]? = some (.bool (gB L y)) := by unfold bls; rw [List.getElem?_map, gB_at h]; rfl
theorem bls_set (L : List Bool) (y : Nat) (b : Bool) : (bls L).set y (.bool b) = bls (L.set y b) := by simp [bls, List.map_set]
theorem bls_rep (n : Nat) : bls (List.replicate n false) = List.replicate n (.bool false) := by simp [bls]
theorem info_bl : (Try.prog.info? 4).map (fun i => (i.zero, i.size, i.bytes)) = some (some (.bool false), 1, 1) := by kernel_rfl
theorem make_bl (w : World) {ops : Array Oper} {rest : List Oper} {o : Oper} {a : Act} {Q : Exit → Act → World → Prop} (hg : o.guard = none) (l c : Operand) (hop : o.op = Op.makeSlice 107 l c)
    (n : Nat) (hl : a.eval l = .int .i64 n) (hc : a.eval c = .int .i64 n) (b : n ≤ 17592186044416)
    (hK : ∀ w', w'.ownsRow w.heap.size 4 1 (.slice (some ⟨w.heap.size, 0, none⟩) n n) n (bls (List.replicate n false)) → w.grownBy w' none → wpList Try.prog ops Q rest (a.put o.dst (.slice (some ⟨w.heap.size, 0, none⟩) n n)) w') :
    wpList Try.prog ops Q (o :: rest) a w := by
  obtain ⟨i0, hi, hz0, hz1, hz2⟩ := info_parts info_bl
  refine wpList_make_full w hg l c 107 hop w.heap.size 4 i0 (.bool false) 1 Try.underlying107 hi hz0 hz1 .i64 .i64 n n n hl hc rfl rfl (by rw [hz2]; omega) (by unfold maxLen; omega) (Nat.le_refl _) ?_
  intro w' h1 h2
  refine hK w' ?_ h2
  have e : (madeCells (Value.bool false).cells (n * 1)).toList = List.replicate n (.bool false) := by rw [Nat.mul_one]; exact toList_madeCells_one (.bool false) n
  rw [bls_rep, ← e]
  exact h1
end Go.Proofs.Ytkmgbdljiajlaaa
namespace Go.Proofs.Ytkmgbdljiajlaaa
open Go.RowKit
set_option linter.unusedVariables false

/-- The marked numbers as a list of the call's own. -/
def OwI (w : World) (L : List Int) (e : Ending) (w' : World) : Prop := ∃ A c, e = .returned (.slice A L.length c) ∧ w'.ownsRow w.heap.size 3 1 (.slice A L.length c) L.length (ints L) ∧ Below w.heap.size w w'
theorem OwI.rd {w w' : World} {L : List Int} {e : Ending} (h : OwI w L e w') (hb : ∀ v ∈ L, -9223372036854775808 ≤ v ∧ v ≤ 9223372036854775807) : ∃ A c, e = .returned (.slice A L.length c) ∧ RdL RI w' A L.length L ∧ Below w.heap.size w w' := by
  obtain ⟨A, c, h1, h2, h3⟩ := h
  exact ⟨A, c, h1, rd_of_own (R := RI) h2 (RI_ints hb), h3⟩
theorem inL_get {n y : Nat} {S : List Int} (h : y < n) : gB (inL n S) y = hasI (y : Int) S := by
  refine gB_get ?_
  unfold inL
  rw [List.getElem?_map, List.getElem?_range h]
  rfl
theorem inL_set {n k x : Nat} {S : List Int} (hx : S[k]? = some (x : Int)) (hxn : x < n) : (inL n (S.take k)).set x true = inL n (S.take (k + 1)) := by
  refine gB_ext (n := n) (by rw [List.length_set, inL_len]) (inL_len _ _) fun y hy => ?_
  rw [gB_set (by rw [inL_len]; exact hxn), inL_get hy, inL_get hy, List.take_add_one, hx]
  rw [Bool.eq_iff_iff]
  by_cases e : y = x
  · subst e; simp [hasI_m]
  · rw [if_neg e, hasI_m, hasI_m, List.mem_append]
    constructor
    · exact .inl
    · rintro (h | h)
      · exact h
      · simp at h; omega
end Go.Proofs.Ytkmgbdljiajlaaa
namespace Go.Proofs.Ytkmgbdljiajlaaa
open Go.RowKit
set_option linter.unusedVariables false

/-! ## Is a list an order of names? -/
noncomputable def permB (n : Nat) (L : List Int) : Bool := tt (PermL n L)
theorem permB_len {n : Nat} {L : List Int} (h : L.length ≠ n) : false = permB n L := tt_false fun hp => h hp.1
theorem permB_out {n : Nat} {L : List Int} (h : allIn 0 ((n : Int) - 1) L = false) : false = permB n L := tt_false fun hp => by
  have := allIn_iff.2 hp.2.1
  rw [this] at h
  cases h
theorem permB_dup {n k : Nat} {L : List Int} {y : Int} (hy : L[k]? = some y) (h : hasI y (L.take k) = true) : false = permB n L := tt_false fun hp => by
  have hm := hasI_iff.1 h
  obtain ⟨i, hi⟩ := List.getElem?_of_mem hm
  rw [List.getElem?_take] at hi
  split at hi
  · have := nodup_at hp.2.2 hi hy
    omega
  · cases hi
theorem permB_yes {n : Nat} {L : List Int} (h1 : L.length = n) (h2 : allIn 0 ((n : Int) - 1) L = true) (h3 : L.Nodup) : true = permB n L := tt_true ⟨h1, allIn_iff.1 h2, h3⟩
theorem take_nodup {k : Nat} {L : List Int} {y : Int} (h : (L.take k).Nodup) (hy : L[k]? = some y) (hm : hasI y (L.take k) = false) : (L.take (k + 1)).Nodup := by
  rw [List.take_add_one, hy]
  show (L.take k ++ [y]).Nodup
  rw [List.nodup_append]
  refine ⟨h, by simp, fun a ha b hb => ?_⟩
  rw [List.mem_singleton] at hb
  subst hb
  intro e
  subst e
  rw [hasI_iff.2 ha] at hm
  cases hm
theorem inL_nil (n : Nat) (L : List Int) : inL n (L.take 0) = List.replicate n false := by
  unfold inL
  rw [List.take_zero]
  exact List.eq_replicate_iff.2 ⟨by simp, fun b hb => by obtain ⟨y, -, rfl⟩ := List.mem_map.1 hb; rfl⟩
theorem gB_inL {n x : Nat} {L : List Int} (hx : x < n) : gB (inL n L) x = hasI (x : Int) L := by
  unfold gB inL
  rw [List.getD_eq_getElem?_getD, List.getElem?_map, List.getElem?_range hx]
  rfl
set_option maxHeartbeats 2000000 in
theorem l2PermB_any (A : Option Addr) (m c n : Nat) (L : List Int) (w : World) (h : RdL RI w A m L) (hn : n ≤ 1000) :
    Calls Try.prog 61 #[.slice A m c, .int .i64 n] w (Bl w (.bool (permB n L))) := by
  have hle := h.le
  have HL := Lib.hid h.len
  by_cases hmn : m = n
  case neg =>
    have hq : ((m : Int) != (n : Int)) = true := by simp; omega
    have HR : Hid (false = permB n L) := permB_len (by rw [HL.out]; exact hmn)
    go_enter Try.func61, Try.ntmps61
    go_wp2_with fail
    go_ret
    exact ⟨ret_bool HR.out, Below.refl _ _⟩
  subst hmn
  have hq : ((m : Int) != (m : Int)) = false := by simp
  obtain ⟨el, HEL⟩ : ∃ b, Hid (allIn 0 ((m : Int) - 1) L = b) := ⟨_, rfl⟩
  have HE := Lib.hid (l2Elements_any A m c L m w h (by omega) (by omega))
  rw [HEL.out] at HE
  rcases el with _ | _
  · have HR := Lib.hid (permB_out HEL.out)
    go_enter Try.func61, Try.ntmps61
    go_wp2_with fail
    refine HE.out.mono ?_
    rintro e w' ⟨rfl, rfl⟩
    go_wp2_with fail
    go_ret
    exact ⟨ret_bool HR.out, Below.refl _ _⟩
  have HS : Hid (∀ v ∈ L, 0 ≤ v ∧ v ≤ (m : Int) - 1) := allIn_iff.1 HEL.out
  go_enter Try.func61, Try.ntmps61
  go_wp2_with fail
  refine HE.out.mono ?_
  rintro e w' ⟨rfl, rfl⟩
  obtain ⟨wo, HWO⟩ : ∃ wo : World, wo = w := ⟨_, rfl⟩
  subst HWO
  go_wp2_with (at_make; refine make_bl wo rfl _ _ rfl m rfl rfl (by omega) ?_; intro w1 hown1 hg1)
  have hb1 := (Below.refl wo.heap.size wo).grown hg1 (Nat.le_refl _) (by simp)
  clear hg1
  go_loopw [6] (fun i wr => ∃ k : Nat, k ≤ m ∧ i = .int .i64 k ∧ wr.ownsRow wo.heap.size 4 1 (.slice (some ⟨wo.heap.size, 0, none⟩) m m) m (bls (inL m (L.take k))) ∧ Hid ((L.take k).Nodup) ∧ Below wo.heap.size wo wr) (fun i _ => m - (intOf i).toNat)
  case atStart =>
    refine ⟨0, Nat.zero_le _, rfl, ?_, (by show (L.take 0).Nodup; simp), hb1⟩
    rw [inL_nil]
    exact hown1
  case round =>
    clear hown1 hb1
    obtain ⟨k, hk, rfl, hown, HND, hTr⟩ := hrel
    by_cases hlt : k < m
    · have hk0 : (0 : Int) ≤ (k : Int) := by omega
      have hk1 : (k : Int) < (m : Int) := by omega
      obtain ⟨b, o, u, v, rfl, hc, ⟨rfl, hv0, hv1⟩, -, hx⟩ := h.at hlt
      have hvi := HS.out v (List.mem_of_getElem? hx)
      obtain ⟨x, rfl⟩ := Int.eq_ofNat_of_zero_le hvi.1
      have hxn : x < m := by omega
      have HSET := Lib.hid (inL_set hx hxn)
      have HX := Lib.hid hx
      replace hc := keepc hTr hc
      obtain ⟨sb, HSB⟩ : ∃ b, Hid (hasI (x : Int) (L.take k) = b) := ⟨_, rfl⟩
      have hcell : wr.cell? ⟨wo.heap.size, x, none⟩ = some (.bool sb) := by rw [hown.cellAt x (by omega), bls_get (by rw [inL_len]; exact hxn), gB_inL hxn, HSB.out]
      have hfz := hown.frozenAt x
      have hst := (hown.stored x (.bool true)).1
      rw [bls_set, HSET.out] at hst
      have hx0 : (0 : Int) ≤ (x : Int) := by omega
      have hx1 : (x : Int) < (m : Int) := by omega
      clear hx hown
      rcases sb with _ | _
      · have HN2 := Lib.hid (take_nodup HND.out HX.out HSB.out)
        go_wp2_with fail
        go_roundw
        case rel => exact ⟨k + 1, by omega, by go_num, hst, HN2, hTr.setCell (Nat.le_refl _) _⟩
        case measure => simp [intOf]; try omega
      · have HR : Hid (false = permB m L) := permB_dup HX.out HSB.out
        go_wp2_with fail
        go_ret
        exact ⟨ret_bool HR.out, hTr⟩
    · have hk1 : ¬ (k : Int) < (m : Int) := by omega
      have HR : Hid (true = permB m L) := permB_yes HL.out HEL.out (by have := HND.out; rwa [List.take_of_length_le (by rw [HL.out]; omega)] at this)
      go_wp2_with fail
      go_ret
      exact ⟨ret_bool HR.out, hTr⟩
end Go.Proofs.Ytkmgbdljiajlaaa
namespace Go.Proofs.Ytkmgbdljiajlaaa
open Go.RowKit
set_option linter.unusedVariables false
set_option linter.unusedSimpArgs false

/-- What the walk of algebra hands on. -/
def AlgC : Prop := ∀ (B g t : Nat) (w : World), CurB B w g t → B ≤ w.heap.size → t ≤ 999900000 → Calls Try.prog 79 #[.pointer (some ⟨g, 0, none⟩)] w (AlgD B w g (t + 2000))
/-- The last words of a draw: the result box is filled and handed back. -/
theorem alg_fin {B g t t' : Nat} {w w4 : World} {x : AlgebraM} {A : Option Addr} {n c : Nat} {bl : List Nat} (BR4 : Blk w4 w.heap.size 27 #[.int .i64 0, .slice none 0 0]) (O4 : shAlgebra.own w4 [.int .i64 x.1, .slice A n c] x bl) (I3 : Iv (w.heap.size + 1) w4.heap.size bl) (hQ : AlgQ x) (hc4 : CurB B w4 g t) (hgr4 : w.grownBy w4 (some g))
    (hB : B ≤ w.heap.size) (hr0g : w.heap.size ≠ g) (ht : t ≤ t') : ∀ wf, wf = (w4.setCell ⟨w.heap.size, 0, none⟩ (.int .i64 x.1)).setCell ⟨w.heap.size, 1, none⟩ (.slice A n c) →
    Blk wf w.heap.size 27 #[.int .i64 x.1, .slice A n c] ∧ AlgD B w g t' (.returned (.agg #[.int .i64 x.1, .slice A n c])) wf := by
  rintro wf rfl
  have hrn : w.heap.size ∉ bl := fun hh => by have := (I3.2 _ hh).1; omega
  refine ⟨by simpa using (BR4.set_ 0 (.int .i64 x.1)).set_ 1 (.slice A n c), [.int .i64 x.1, .slice A n c], x, bl, rfl, ?_, ?_, hQ, ?_, ?_⟩
  · exact Sh.oset' (p := ⟨w.heap.size, 1, none⟩) (Sh.oset' (p := ⟨w.heap.size, 0, none⟩) O4 hrn _) hrn _
  · exact I3.mono (by omega) (by simp)
  · exact ((hc4.setFar (p := ⟨w.heap.size, 0, none⟩) hB hr0g _).setFar (p := ⟨w.heap.size, 1, none⟩) hB hr0g _).mono ht
  · exact growB_new (growB_new hgr4 (p := ⟨w.heap.size, 0, none⟩) (Nat.le_refl _) _) (p := ⟨w.heap.size, 1, none⟩) (Nat.le_refl _) _
set_option maxRecDepth 20000 in
set_option maxHeartbeats 16000000 in
theorem algebra31_of (HALG : AlgC) (B g t : Nat) (w : World) (h : CurB B w g t) (hB : B ≤ w.heap.size) (ht : t ≤ 999890000) :
    Calls Try.prog 39 #[.pointer (some ⟨g, 0, none⟩)] w (AlgD B w g (t + 2100)) := by
  have hgl := h.lt
  obtain ⟨w0, HW0⟩ : ∃ wb, Hid (wb = w.alloc (.cells #[.int .i64 0, .slice none 0 0] 27)) := ⟨_, Lib.hid rfl⟩
  have hb0 : Below w.heap.size w w0 := by rw [HW0.out]; exact below_box _ _
  have BR : Blk w0 w.heap.size 27 #[.int .i64 0, .slice none 0 0] := by rw [HW0.out]; exact Blk.new _ _ _
  have hz0 : w.heap.size + 1 ≤ w0.heap.size := by rw [HW0.out]; simp
  have HON := Lib.hid (oneB_any g t 12 w0 (h.next_ hb0) (by omega) (by omega))
  have hr0g : w.heap.size ≠ g := by omega
  go_enter Try.func39, Try.ntmps39
  go_upto_region 1 with fail
  rw [← HW0.out]
  go_wp2_with fail
  refine HON.out.mono ?_
  rintro e w1 ⟨b, rfl, hc1, hg1⟩
  have BR1 := BR.grownG hg1 hr0g
  have hgr1 := growB_trans (toGr (r := some g) hb0) hg1
  have hz1 := hg1.size
  clear HON BR hg1
  rcases b with _ | _
  · -- a known one
    obtain ⟨w2, HW2⟩ : ∃ wb, Hid (wb = w1.alloc (.cells #[.int .i64 0, .int .i64 1, .int .i64 2, .int .i64 3, .int .i64 4, .int .i64 5, .int .i64 7, .int .i64 8, .int .i64 9, .int .i64 10, .int .i64 13, .int .i64 14, .int .i64 16, .int .i64 12, .int .i64 11] 3)) := ⟨_, Lib.hid rfl⟩
    have hb2 : Below w1.heap.size w1 w2 := by rw [HW2.out]; exact below_box _ _
    have hnum : NumsP (fun x => 0 ≤ x) w2 g w1.heap.size 15 := by rw [HW2.out]; exact numsL _ [0, 1, 2, 3, 4, 5, 7, 8, 9, 10, 13, 14, 16, 12, 11] w1 g hc1.lt (by decide) (by decide) (by intro x hx; simp at hx; omega) rfl
    have HAM := Lib.hid (amongB_any g (t + 2) w1.heap.size 15 15 w2 (hc1.next_ hb2) (by omega) _ hnum)
    have BR2 := BR1.next hb2
    have hgr2 := growB_trans hgr1 (toGr (r := some g) hb2)
    have hz2 := hb2.size
    clear hnum BR1
    go_wp2_with fail
    rw [← HW2.out]
    refine HAM.out.mono ?_
    rintro e w3 ⟨k, hk, rfl, hc3, hg3⟩
    have BR3 := BR2.grownG hg3 hr0g
    have hgr3 := growB_trans hgr2 hg3
    have hz3 := hg3.size
    have HKN := Lib.hid (l2Known_any k w3 hk)
    clear HAM BR2 hg3
    go_wp2_with fail
    refine HKN.out.mono ?_
    rintro e w4 ⟨⟨z, ops⟩, ⟨cs, bl, rfl, O4, I4, hb4⟩, hsm⟩
    obtain ⟨n, rfl⟩ : ∃ n : Nat, z = (n : Int) := ⟨z.toNat, by have h1 : 1 ≤ z := hsm.1; omega⟩
    have hn5 : n ≤ 5 := by have h1 : (n : Int) ≤ 5 := hsm.2.1; omega
    obtain ⟨A, m, c, rfl, -, -⟩ := rdAlgebra (shAlgebra.ord O4)
    have BR4 := BR3.next hb4
    have hz4 := hb4.size
    obtain ⟨w5, HW5⟩ : ∃ wb, Hid (wb = w4.alloc (.cells #[.int .i64 (n : Int), .slice A m c] 27)) := ⟨_, Lib.hid rfl⟩
    have hb5 : Below w4.heap.size w4 w5 := by rw [HW5.out]; exact below_box _ _
    have BX : Blk w5 w4.heap.size 27 #[.int .i64 (n : Int), .slice A m c] := by rw [HW5.out]; exact Blk.new _ _ _
    have BR5 := BR4.next hb5
    have hc5 := (hc3.next_ hb4).next_ hb5
    have hgr5 := growB_trans (growB_trans hgr3 (toGr (r := some g) hb4)) (toGr (r := some g) hb5)
    have O5 := Sh.onext O4 hb5
    have hz5 := hb5.size
    have hxg : w4.heap.size ≠ g := by omega
    have HNM := Lib.hid (names2_any B g (t + 2 + 2) n w5 hc5 (by omega) (by omega) (by omega))
    have cX0 := BX.cell 0
    simp at cX0
    have HSM := Lib.hid hsm
    clear HKN BR3 BR4 hc3 hc5 O4 hsm
    go_upto_region 4 with fail
    rw [← HW5.out]
    go_wp2_with fail
    refine HNM.out.mono ?_
    rintro e w6 ⟨N, p, cN, L, rfl, hown, hL, hp, hc6, hg6⟩
    have BX6 := BX.grownG hg6 hxg
    have BR6 := BR5.grownG hg6 hr0g
    have hgr6 := growB_trans hgr5 hg6
    have O6 := Sh.ogrown O5 hg6 I4 (by omega)
    have hz6 := hg6.size
    have hrd := rd_of_own (R := RI) hown (RI_ints fun v hv => by have := hL v hv; omega)
    obtain ⟨pb, HPB⟩ : ∃ b, Hid (permB n L = b) := ⟨_, Lib.hid rfl⟩
    have HPM : Hid (Calls Try.prog 61 #[.slice N p cN, .int .i64 (n : Int)] w6 (Bl w6 (.bool pb))) := by
      have := l2PermB_any N p cN n L w6 hrd (by omega)
      rw [HPB.out] at this
      exact this
    clear cX0
    have cX0 := BX6.cell 0
    have cX1 := BX6.cell 1
    simp at cX0 cX1
    clear HNM BX BR5 O5 hg6
    go_wp2_with fail
    refine HPM.out.mono ?_
    rintro e w7 ⟨rfl, hb7⟩
    have BX7 := BX6.next hb7
    have BR7 := BR6.next hb7
    have hgr7 := growB_trans hgr6 (toGr (r := some g) hb7)
    have O7 := Sh.onext O6 hb7
    have hrd7 := hrd.next stab_RI hb7
    have hc7 := hc6.next_ hb7
    have hz7 := hb7.size
    clear cX0 cX1
    have cX0 := BX7.cell 0
    have cX1 := BX7.cell 1
    simp at cX0 cX1
    clear HPM BX6 BR6 O6 hc6 hown hrd
    rcases pb with _ | _
    · obtain ⟨wf, HWF⟩ : ∃ wf, Hid (wf = (w7.setCell ⟨w.heap.size, 0, none⟩ (.int .i64 (n : Int))).setCell ⟨w.heap.size, 1, none⟩ (.slice A m c)) := ⟨_, Lib.hid rfl⟩
      have HFIN := Lib.hid (alg_fin (t' := t + 2100) (x := ((n : Int), ops)) BR7 O7 (I4.mono (by omega) (by omega)) (small_q HSM.out) hc7 hgr7 hB hr0g (by omega) wf HWF.out)
      have cR0 := BR7.cell 0
      have cR1 := BR7.cell 1
      simp at cR0 cR1
      have fR0 := BR7.frozen 0
      have fR1 := BR7.frozen 1
      clear BX7 BR7 O7 hc7 hgr7 hrd7
      go_wp2_with fail
      rw [← HWF.out]
      (try simp only [Exit.inBlock, Exit.then])
      refine bodyPost_ret (v := .agg #[.int .i64 (n : Int), .slice A m c]) (results_cell_row rfl _ _ w.heap.size 27 #[.int .i64 (n : Int), .slice A m c] (0, 0) _ (by simp) HFIN.out.1 Try.underlying27 rfl (by kernel_rfl)) rfl ?_
      exact HFIN.out.2
    · have hpm : PermL n L := tt_iff.1 HPB.out
      have HRN : Hid (Calls Try.prog 62 #[.agg #[.int .i64 (n : Int), .slice A m c], .slice N p cN] w7 (AlgE w7 (ren ((n : Int), ops) L))) := l2Rename_any [.int .i64 (n : Int), .slice A m c] ((n : Int), ops) N p cN L w7 (shAlgebra.ord O7) hrd7 HSM.out (by simpa using hpm)
      have HSR := Lib.hid (small_q (ren_small (x := ((n : Int), ops)) (s := L) (by simpa using hpm) HSM.out))
      clear hpm
      go_wp2_with fail
      refine HRN.out.mono ?_
      rintro e w8 ⟨v8, css, bls, rfl, PX, hb8⟩
      have BR8 := BR7.next hb8
      have hgr8 := growB_trans hgr7 (toGr (r := some g) hb8)
      have hc8 := hc7.next_ hb8
      have hz8 := hb8.size
      obtain ⟨A8, c8, rfl⟩ := own_slice PX.2.1
      obtain ⟨M8, HM8⟩ : ∃ M, Hid ((ren ((n : Int), ops) L).2.length = M) := ⟨_, Lib.hid rfl⟩
      have hn8 : (ren ((n : Int), ops) L).1 = (n : Int) := rfl
      have O8 := PX.algK (a := (ren ((n : Int), ops) L).1) ⟨by rw [hn8]; omega, by rw [hn8]; omega⟩
      have I8 := PX.2.2
      rw [HM8.out] at O8 I8 ⊢
      obtain ⟨wf, HWF⟩ : ∃ wf, Hid (wf = (w8.setCell ⟨w.heap.size, 0, none⟩ (.int .i64 (n : Int))).setCell ⟨w.heap.size, 1, none⟩ (.slice A8 M8 c8)) := ⟨_, Lib.hid rfl⟩
      have HFIN := Lib.hid (alg_fin (t' := t + 2100) (x := ren ((n : Int), ops) L) BR8 O8 (I8.mono (by omega) (Nat.le_refl _)) HSR.out hc8 hgr8 hB hr0g (by omega) wf HWF.out)
      have cR0 := BR8.cell 0
      have cR1 := BR8.cell 1
      simp at cR0 cR1
      have fR0 := BR8.frozen 0
      have fR1 := BR8.frozen 1
      clear BX7 BR7 BR8 O7 O8 I8 PX hc7 hc8 hgr7 hgr8 hrd7
      go_wp2_with fail
      rw [← HWF.out]
      (try simp only [Exit.inBlock, Exit.then])
      refine bodyPost_ret (v := .agg #[.int .i64 (n : Int), .slice A8 M8 c8]) (results_cell_row rfl _ _ w.heap.size 27 #[.int .i64 (n : Int), .slice A8 M8 c8] (0, 0) _ (by simp) HFIN.out.1 Try.underlying27 rfl (by kernel_rfl)) rfl ?_
      exact HFIN.out.2
  · -- any one
    have HAL := Lib.hid (HALG B g (t + 2) w1 hc1 (by omega) (by omega))
    go_wp2_with fail
    refine HAL.out.mono ?_
    rintro e w2 ⟨cs, x, bl, rfl, O2, I2, hQ, hc2, hg2⟩
    obtain ⟨A, m, c, rfl, -, -⟩ := rdAlgebra (shAlgebra.ord O2)
    have BR2 := BR1.grownG hg2 hr0g
    have hgr2 := growB_trans hgr1 hg2
    have hz2 := hg2.size
    obtain ⟨wf, HWF⟩ : ∃ wf, Hid (wf = (w2.setCell ⟨w.heap.size, 0, none⟩ (.int .i64 x.1)).setCell ⟨w.heap.size, 1, none⟩ (.slice A m c)) := ⟨_, Lib.hid rfl⟩
    have HFIN := Lib.hid (alg_fin (t' := t + 2100) BR2 O2 (I2.mono (by omega) (Nat.le_refl _)) hQ hc2 hgr2 hB hr0g (by omega) wf HWF.out)
    have cR0 := BR2.cell 0
    have cR1 := BR2.cell 1
    simp at cR0 cR1
    have fR0 := BR2.frozen 0
    have fR1 := BR2.frozen 1
    clear HAL BR1 BR2 O2 I2 hc2 hgr2 hg2
    go_wp2_with fail
    rw [← HWF.out]
    (try simp only [Exit.inBlock, Exit.then])
    refine bodyPost_ret (v := .agg #[.int .i64 x.1, .slice A m c]) (results_cell_row rfl _ _ w.heap.size 27 #[.int .i64 x.1, .slice A m c] (0, 0) _ (by simp) HFIN.out.1 Try.underlying27 rfl (by kernel_rfl)) rfl ?_
    exact HFIN.out.2
end Go.Proofs.Ytkmgbdljiajlaaa
namespace Go.Proofs.Ytkmgbdljiajlaaa
open Go.RowKit
set_option linter.unusedVariables false
set_option linter.unusedSimpArgs false

theorem ownB_eq {q n c r : Nat} (e : (Value.slice (some ⟨q, 0, none⟩) n c).ownBlock = some r) : q = r := by
  have e2 : some q = some r := e
  injection e2
/-- What the walk of algebra31 hands on. -/
def Alg31C : Prop := ∀ (B g t : Nat) (w : World), CurB B w g t → B ≤ w.heap.size → t ≤ 999800000 → Calls Try.prog 39 #[.pointer (some ⟨g, 0, none⟩)] w (AlgD B w g (t + 2100))
theorem canA_range {x : AlgebraM} (h : SmallP x) : InR (canA x).1 := by
  have h1 := (canA_small h).1
  have h2 := (canA_small h).2.1
  constructor <;> omega
def TXt (w : World) (g b : Nat) : Prop := TextsP w g b 5 20 ∧ ∃ cur fr, w.heap[b]? = some (.cells cur 9 fr)
theorem TXt.lt {w : World} {g b : Nat} (h : TXt w g b) : b < w.heap.size := by
  obtain ⟨-, cur, fr, hc⟩ := h
  exact (Array.getElem?_eq_some_iff.1 hc).1
theorem TXt.grown {w w' : World} {g b : Nat} (h : TXt w g b) (hg : w.grownBy w' (some g)) : TXt w' g b := by
  obtain ⟨cur, fr, hc⟩ := h.2
  exact ⟨TextsP.grown h.1 hg, cur, fr, (hg.block b h.lt (fun e => by injection e with e; exact h.1.1 e)).trans hc⟩
theorem TXt.row {w w' : World} {g b lo n q c : Nat} {xs : List Value} (h : TXt w g b) (ho : w.ownsRow lo 33 3 (.slice (some ⟨q, 0, none⟩) n c) n xs) (hg : w.grownBy w' (Value.slice (some ⟨q, 0, none⟩) n c).ownBlock) : TXt w' g b := by
  obtain ⟨cur, fr, hc⟩ := h.2
  have hne : some b ≠ (Value.slice (some ⟨q, 0, none⟩) n c).ownBlock := fun e => by
    obtain ⟨cur2, fr2, hq⟩ := row_blk ho (mem_obl.2 e.symm)
    rw [hc] at hq
    injection hq with hq
    injection hq with _ hq _
    exact absurd hq (by decide)
  have hb := hg.block b h.lt hne
  refine ⟨⟨h.1.1, h.1.2.1, h.1.2.2.1, fun i hi => ?_⟩, cur, fr, hb.trans hc⟩
  obtain ⟨s, hs, hcs⟩ := h.1.2.2.2 i hi
  exact ⟨s, hs, (World.cell?_of_block hb).trans hcs⟩
set_option maxRecDepth 100000 in
set_option maxHeartbeats 16000000 in
theorem catalogue31_of (HALG : Alg31C) (B g t : Nat) (w : World) (h : CurB B w g t) (hB : B ≤ w.heap.size) (ht : t ≤ 999700000) :
    Calls Try.prog 40 #[.pointer (some ⟨g, 0, none⟩)] w (EnD B w g (t + 20000)) := by
  have hgl := h.lt
  obtain ⟨w0, HW0⟩ : ∃ x, Hid (x = w.alloc (.cells #[] 33)) := ⟨_, Lib.hid rfl⟩
  have hb0 : Below w.heap.size w w0 := by rw [HW0.out]; exact below_box _ _
  have hE0 : EnS g w.heap.size w0 w.heap.size 0 [] [] := by rw [HW0.out]; exact EnS.lit w (Nat.le_refl _)
  have hz0 : w0.heap.size = w.heap.size + 1 := by rw [HW0.out]; simp
  obtain ⟨w1, HW1⟩ : ∃ x, Hid (x = w0.alloc (.cells #[.string ⟨#[97, 108, 112, 104, 97]⟩, .string ⟨#[98, 101, 116, 97]⟩, .string ⟨#[103, 97, 109, 109, 97]⟩, .string ⟨#[100, 101, 108, 116, 97]⟩, .string ⟨#[101, 112, 115]⟩] 9)) := ⟨_, Lib.hid rfl⟩
  have hb1 : Below w0.heap.size w0 w1 := by rw [HW1.out]; exact below_box _ _
  have hTX1 : TXt w1 g (w.heap.size + 1) := by
    have h1 := textsL [⟨#[97, 108, 112, 104, 97]⟩, ⟨#[98, 101, 116, 97]⟩, ⟨#[103, 97, 109, 109, 97]⟩, ⟨#[100, 101, 108, 116, 97]⟩, ⟨#[101, 112, 115]⟩] 20 w0 g (by omega) 5 (by decide) (by decide) (by decide) (by decide) (T := 9)
    rw [HW1.out, ← hz0]
    exact ⟨h1, _, _, Blk.new w0 9 _⟩
  have hE1 := hE0.next hb1
  have hc1 := (h.next_ hb0).next_ hb1
  have hgr1 := growB_trans (toGr (r := some g) hb0) (toGr (r := some g) hb1)
  have hz1 := hb1.size
  have HPK := Lib.hid (pickB_any g t 5 w1 hc1 (by omega) (by omega))
  have HAL := Lib.hid HALG
  clear hE0 hb0 hb1 hc1 h HALG
  go_enter Try.func40, Try.ntmps40
  go_upto_region 3 with fail
  rw [show (w.alloc (.cells #[] 33)).alloc _ = w1 by rw [HW1.out, HW0.out]]
  go_wp2_with fail
  refine HPK.out.mono ?_
  rintro e w2 ⟨n0, hn0, rfl, hc2, hg2⟩
  have hE2 := hE1.go hg2 hgl
  have hTX2 := hTX1.grown hg2
  have hgr2 := growB_trans hgr1 hg2
  have hz2 := hg2.size
  have hn4 : n0 ≤ 4 := by omega
  clear HPK hE1 hTX1 hgr1 hg2 hn0
  go_wp2_with fail
  go_loopw [3, 5] (fun l i wr => ∃ (p q c : Nat) (xs : List EntryM) (css : List (List Value)), l = .slice (some ⟨q, 0, none⟩) xs.length c ∧ i = .int .i64 (p : Int) ∧ p ≤ 4 ∧ EnS g w.heap.size wr q c xs css ∧ xs.length + p ≤ 4 ∧ Hid (∀ y ∈ xs, y.1.size ≤ 20 ∧ SmallP y.2) ∧ CurB B wr g (t + 2 + 2100 * (4 - p)) ∧ w.grownBy wr (some g) ∧ TXt wr g (w.heap.size + 1)) (fun _ i _ => (intOf i).toNat)
  case atStart => exact ⟨n0, _, _, [], _, rfl, rfl, hn4, hE2, by simp; omega, (fun y hy => by cases hy), hc2.mono (by omega), hgr2, hTX2⟩
  case round =>
    clear hE2 hc2 hgr2 hTX2 hn4
    obtain ⟨p, q, c, xs, css, rfl, rfl, hp4, hE, hxl, HQS, hcu, hgr, hTX⟩ := hrel
    have hqr := hE.row
    have hcap := hE.cap
    by_cases hp0 : p = 0
    · subst hp0
      have hcu9 : CurB B wr g (t + 9000) := hcu.mono (by omega)
      have HEQ : Hid (∀ y ∈ xs, EntQ y) := fun y hy => ⟨(HQS.out y hy).1, small_q (HQS.out y hy).2⟩
      have hwr := hgr.size
      clear hcu HQS
      by_cases hx0 : xs.length = 0
      · have hx0i : (xs.length : Int) = 0 := by omega
        go_wp2_with fail
        go_ret
        exact EnD.mk hE (by omega) HEQ.out hcu9 hgr (by omega)
      · have hx0i : ¬ (xs.length : Int) = 0 := by omega
        have HON := Lib.hid (oneB_any g (t + 9000) 8 wr hcu9 (by omega) (by omega))
        go_wp2_with fail
        refine HON.out.mono ?_
        rintro e w5 ⟨b, rfl, hc5, hg5⟩
        replace hE := hE.go hg5 hgl
        replace hgr := growB_trans hgr hg5
        replace hTX := hTX.grown hg5
        have hw5 := hg5.size
        clear HON hcu9 hg5
        rcases b with _ | _
        · go_wp2_with fail
          go_ret
          exact EnD.mk hE (by omega) HEQ.out hc5 hgr (by omega)
        · have HPK := Lib.hid (pickB_any g (t + 9000 + 2) (xs.length : Int) w5 hc5 (by omega) (by omega))
          go_wp2_with fail
          refine HPK.out.mono ?_
          rintro e w6 ⟨k, hk, rfl, hc6, hg6⟩
          have hkx : k < xs.length := by omega
          replace hE := hE.go hg6 hgl
          replace hgr := growB_trans hgr hg6
          replace hTX := hTX.grown hg6
          have hw6 := hg6.size
          have HPD := Lib.hid (pickB_any g (t + 9000 + 2 + 2) 5 w6 hc6 (by omega) (by omega))
          clear HPK hc5 hg6 hk
          go_wp2_with fail
          refine HPD.out.mono ?_
          rintro e w7 ⟨d, hd, rfl, hc7, hg7⟩
          have hd5 : d < 5 := by omega
          replace hE := hE.go hg7 hgl
          replace hgr := growB_trans hgr hg7
          replace hTX := hTX.grown hg7
          have hw7 := hg7.size
          have hk0 : (0 : Int) ≤ (k : Int) := by omega
          have hk1 : (k : Int) < (xs.length : Int) := by omega
          have hck : css[k]? = some (css[k]'(by have := hE.2.1; omega)) := List.getElem?_eq_getElem _
          generalize css[k]'(by have := hE.2.1; omega) = ck at hck
          have hyk : xs[k]? = some (xs[k]'hkx) := List.getElem?_eq_getElem hkx
          generalize xs[k]'hkx = y at hyk
          have hFk := hE.2.2.2 k ck y hck hyk
          have HYQ := Lib.hid (HEQ.out y (List.mem_of_getElem? hyk))
          have HFK := Lib.hid hFk
          obtain ⟨Ay, ny, cy, hce, hys, -, -⟩ := rdEntry hFk.self
          subst hce
          have HCK := Lib.hid hck
          have HYK := Lib.hid hyk
          have hqg : q ≠ g := by omega
          have hqB : B ≤ q := by omega
          have hqw : w.heap.size ≤ q := by omega
          clear HPD hc6 hg7 hd hck hyk hFk hx0 hx0i
          obtain rfl | rfl | rfl | rfl | rfl : d = 0 ∨ d = 1 ∨ d = 2 ∨ d = 3 ∨ d = 4 := by omega
          · -- another name
            obtain ⟨w8, HW8⟩ : ∃ x, Hid (x = w7.alloc (.cells #[.string ⟨#[]⟩, .string ⟨#[65, 108, 112, 104, 97]⟩, .string ⟨#[97, 108, 112, 104, 97]⟩, .string ⟨#[97, 98, 99, 100, 101, 102, 103, 104, 105, 106, 107]⟩] 9)) := ⟨_, Lib.hid rfl⟩
            have hb8 : Below w7.heap.size w7 w8 := by rw [HW8.out]; exact below_box _ _
            have HT8 : TextsP w8 g w7.heap.size 4 20 := by
              rw [HW8.out]
              exact textsL [⟨#[]⟩, ⟨#[65, 108, 112, 104, 97]⟩, ⟨#[97, 108, 112, 104, 97]⟩, ⟨#[97, 98, 99, 100, 101, 102, 103, 104, 105, 106, 107]⟩] 20 w7 g hc7.lt 4 (by decide) (by decide) (by decide) (by decide)
            have HOF := Lib.hid (ofB_any B g (t + 9000 + 2 + 2 + 2) w7.heap.size 4 4 20 w8 (hc7.next_ hb8) (by omega) HT8)
            replace hE := hE.next hb8
            replace hgr := growB_trans hgr (toGr (r := some g) hb8)
            replace HFK : Hid (FarE g w.heap.size w8 fun w => shEntry.rd w _ y) := Lib.hid (HFK.out.go (AgE.next hb8))
            clear hb8 HT8 hc7 hTX
            go_wp2_with fail
            rw [← HW8.out]
            refine HOF.out.mono ?_
            rintro e w9 ⟨s, hs, rfl, hc9, hg9⟩
            replace hE := hE.go hg9 hgl
            replace hgr := growB_trans hgr hg9
            replace HFK : Hid (FarE g w.heap.size w9 fun w => shEntry.rd w _ y) := Lib.hid (HFK.out.go (AgE.grown hg9))
            have ck0 : w9.cell? ⟨q, k * 3, none⟩ = some (.string y.1) := hE.cells HCK.out (i := 0) rfl
            have fz0 := hE.1.frozenAt (k * 3)
            obtain ⟨wf, HWF⟩ : ∃ x, Hid (x = w9.setCell ⟨q, k * 3, none⟩ (.string s)) := ⟨_, Lib.hid rfl⟩
            have hst := hE.stored HCK.out (i := 0) (by decide) (.string s)
            have HFIN : EnD B w g (t + 20000) (.returned (.slice (some ⟨q, 0, none⟩) xs.length c)) wf := by
              rw [HWF.out]
              have hE2 := hE.sets (hE.ag hst.2) hst.1 ((HFK.out.name (s := s) (by unfold maxLen; omega) rfl).go (hE.ag hst.2))
              have := EnD.mk (t' := t + 20000) hE2 (by rw [List.length_set]; omega) (fun x hx => by
                rcases List.mem_or_eq_of_mem_set hx with hx | rfl
                · exact HEQ.out x hx
                · exact ⟨hs, HYQ.out.2⟩) (hc9.setFar (p := ⟨q, k * 3, none⟩) hqB hqg _) (growB_new hgr (p := ⟨q, k * 3, none⟩) hqw _) (by omega)
              rw [List.length_set] at this
              exact this
            have HFI := Lib.hid HFIN
            clear HOF hE hgr hc9 hg9 hst HFIN
            go_wp2_with fail
            rw [← HWF.out]
            go_ret
            exact HFI.out
          · -- another model
            have HA := Lib.hid (HAL.out B g (t + 9000 + 2 + 2 + 2) w7 hc7 (by omega) (by omega))
            clear hTX
            go_wp2_with fail
            refine HA.out.mono ?_
            rintro e w9 ⟨da, x, bl, rfl, O9, I9, hQ9, hc9, hg9⟩
            replace hE := hE.go hg9 hgl
            replace hgr := growB_trans hgr hg9
            replace HFK : Hid (FarE g w.heap.size w9 fun w => shEntry.rd w _ y) := Lib.hid (HFK.out.go (AgE.grown hg9))
            have hst1 := hE.stored HCK.out (i := 1) (by decide) (.int .i64 x.1)
            obtain ⟨Ax, nx, cx, hda, -, -⟩ := rdAlgebra (shAlgebra.ord O9)
            subst hda
            have hfl : (css.set k [.string y.1, .int .i64 x.1, .slice Ay ny cy]).flatten.set (k * 3 + 2) (.slice Ax nx cx) = (css.set k [.string y.1, .int .i64 x.1, .slice Ax nx cx]).flatten := by
              rw [flat_set (m := 3) (fun c hc => by rcases List.mem_or_eq_of_mem_set hc with hc | rfl; exact hE.2.2.1 c hc; rfl) k 2 [.string y.1, .int .i64 x.1, .slice Ay ny cy] _ (by rw [List.getElem?_set_self' , HCK.out]; rfl) (by decide), List.set_set]
              rfl
            have hst2 := World.ownsRow.stored (show World.ownsRow _ w.heap.size 33 3 (.slice (some ⟨q, 0, none⟩) xs.length c) xs.length (css.set k [.string y.1, .int .i64 x.1, .slice Ay ny cy]).flatten from hst1.1) (k * 3 + 2) (.slice Ax nx cx)
            rw [hfl] at hst2
            have hgq := growB_trans hst1.2 hst2.2
            obtain ⟨A', n', c', hda, hFn⟩ := HFK.out.model O9 I9 (by have := hgr.size; omega) (by have := hc7.lt; omega) (hE.ag hgq)
            injection hda with _ hda
            injection hda with hda _
            injection hda with h1 h2 h3
            subst h1
            subst h2
            subst h3
            have ck1 : w9.cell? ⟨q, k * 3 + 1, none⟩ = some (.int .i64 y.2.1) := hE.cells HCK.out (i := 1) rfl
            have ck2 : w9.cell? ⟨q, k * 3 + 2, none⟩ = some (.slice Ay ny cy) := hE.cells HCK.out (i := 2) rfl
            have fz1 := hE.1.frozenAt (k * 3 + 1)
            have fz2 := hE.1.frozenAt (k * 3 + 2)
            obtain ⟨wf, HWF⟩ : ∃ wb, Hid (wb = (w9.setCell ⟨q, k * 3 + 1, none⟩ (.int .i64 x.1)).setCell ⟨q, k * 3 + 2, none⟩ (.slice Ax nx cx)) := ⟨_, Lib.hid rfl⟩
            have HFIN : EnD B w g (t + 20000) (.returned (.slice (some ⟨q, 0, none⟩) xs.length c)) wf := by
              rw [HWF.out]
              have hE2 := hE.sets (hE.ag hgq) hst2.1 hFn
              have := EnD.mk (t' := t + 20000) hE2 (by rw [List.length_set]; omega) (fun x hx => by
                rcases List.mem_or_eq_of_mem_set hx with hx | rfl
                · exact HEQ.out x hx
                · exact ⟨HYQ.out.1, hQ9⟩) ((hc9.setFar (p := ⟨q, k * 3 + 1, none⟩) hqB hqg _).setFar (p := ⟨q, k * 3 + 2, none⟩) hqB hqg _) (growB_new (growB_new hgr (p := ⟨q, k * 3 + 1, none⟩) hqw _) (p := ⟨q, k * 3 + 2, none⟩) hqw _) (by omega)
              rw [List.length_set] at this
              exact this
            have HFI := Lib.hid HFIN
            clear HA hE hgr hc9 hg9 hst1 hst2 hgq hFn hfl HFIN O9 I9
            go_wp2_with fail
            rw [← HWF.out]
            go_ret
            exact HFI.out
          · -- an entry twice
            have ck0 : w7.cell? ⟨q, k * 3, none⟩ = some (.string y.1) := hE.cells HCK.out (i := 0) rfl
            have ck1 : w7.cell? ⟨q, k * 3 + 1, none⟩ = some (.int .i64 y.2.1) := hE.cells HCK.out (i := 1) rfl
            have ck2 : w7.cell? ⟨q, k * 3 + 2, none⟩ = some (.slice Ay ny cy) := hE.cells HCK.out (i := 2) rfl
            clear hTX
            go_wp2_with (at_builtin; refine app3 w7 rfl (.tmp 72) (.tmp 77) 24 33 rfl (.agg #[.string ⟨#[]⟩, .int .i64 0, .slice none 0 0]) 48 Try.underlying24 info_entry3 rfl (by decide) w.heap.size xs.length c (some ⟨q, 0, none⟩) css.flatten (by rfl) hE.1 (.string y.1) (.int .i64 y.2.1) (.slice Ay ny cy) rfl rfl rfl (by rfl) (by omega) (by omega) ?_; intro A8 c8 w8 hown8 hg8 hb8)
            obtain ⟨q8, rfl, hq8, -⟩ := own_formE hown8 (by omega)
            go_ret
            have ha8 := AgE.row (g := g) (L := w.heap.size) hE.1 hg8
            have hE2 := hE.push ha8 hown8 (HFK.out.go ha8)
            have := EnD.mk (t' := t + 20000) hE2 (by simp; omega) (fun x hx => by
                rcases List.mem_append.1 hx with hx | hx
                · exact HEQ.out x hx
                · rw [List.mem_singleton.1 hx]; exact HYQ.out) (hc7.grown hg8 (fun r e => by have := ownB_eq e; omega)) (growB_own hgr hg8 (fun r e => by have := ownB_eq e; omega)) (by omega)
            rw [List.length_append] at this
            exact this
          · -- two entries change places
            obtain ⟨x0, c0, hx0, hc0⟩ : ∃ x0 c0, xs[0]? = some x0 ∧ css[0]? = some c0 := ⟨_, _, List.getElem?_eq_getElem (by omega), List.getElem?_eq_getElem (by have := hE.2.1; omega)⟩
            have hF0 := hE.2.2.2 0 c0 x0 hc0 hx0
            obtain ⟨A0, n0', e0, hce0, hx0s, -, -⟩ := rdEntry hF0.self
            subst hce0
            have HF0 := Lib.hid hF0
            have HC0 := Lib.hid hc0
            have HX0 := Lib.hid hx0
            have co0 : w7.cell? ⟨q, 0, none⟩ = some (.string x0.1) := by simpa using hE.cells hc0 (i := 0) rfl
            have co1 : w7.cell? ⟨q, 1, none⟩ = some (.int .i64 x0.2.1) := by simpa using hE.cells hc0 (i := 1) rfl
            have co2 : w7.cell? ⟨q, 2, none⟩ = some (.slice A0 n0' e0) := by simpa using hE.cells hc0 (i := 2) rfl
            obtain ⟨w8, HW8⟩ : ∃ wb, Hid (wb = w7.alloc (.cells #[.string x0.1, .int .i64 x0.2.1, .slice A0 n0' e0] 33)) := ⟨_, Lib.hid rfl⟩
            have hb8 : Below w7.heap.size w7 w8 := by rw [HW8.out]; exact below_box _ _
            have BE : Blk w8 w7.heap.size 33 #[.string x0.1, .int .i64 x0.2.1, .slice A0 n0' e0] := by rw [HW8.out]; exact Blk.new _ _ _
            have hlen0 : (0 : Int) < (xs.length : Int) := by omega
            clear hTX hx0 hc0 hF0
            go_upto_region 23 with fail
            rw [← HW8.out]
            replace hE := hE.next hb8
            replace hgr := growB_trans hgr (toGr (r := some g) hb8)
            replace hc7 := hc7.next_ hb8
            have ck0 : w8.cell? ⟨q, k * 3, none⟩ = some (.string y.1) := hE.cells HCK.out (i := 0) rfl
            have ck1 : w8.cell? ⟨q, k * 3 + 1, none⟩ = some (.int .i64 y.2.1) := hE.cells HCK.out (i := 1) rfl
            have ck2 : w8.cell? ⟨q, k * 3 + 2, none⟩ = some (.slice Ay ny cy) := hE.cells HCK.out (i := 2) rfl
            clear co0 co1 co2
            have co0 : w8.cell? ⟨q, 0, none⟩ = some (.string x0.1) := by simpa using hE.cells HC0.out (i := 0) rfl
            have co1 : w8.cell? ⟨q, 1, none⟩ = some (.int .i64 x0.2.1) := by simpa using hE.cells HC0.out (i := 1) rfl
            have co2 : w8.cell? ⟨q, 2, none⟩ = some (.slice A0 n0' e0) := by simpa using hE.cells HC0.out (i := 2) rfl
            have fo0 := hE.1.frozenAt 0
            have fo1 := hE.1.frozenAt 1
            have fo2 := hE.1.frozenAt 2
            obtain ⟨w9, HW9⟩ : ∃ wb, Hid (wb = ((w8.setCell ⟨q, 0, none⟩ (.string y.1)).setCell ⟨q, 1, none⟩ (.int .i64 y.2.1)).setCell ⟨q, 2, none⟩ (.slice Ay ny cy)) := ⟨_, Lib.hid rfl⟩
            obtain ⟨hst9, hgq9⟩ : w9.ownsRow w.heap.size 33 3 (.slice (some ⟨q, 0, none⟩) xs.length c) xs.length (css.set 0 [.string y.1, .int .i64 y.2.1, .slice Ay ny cy]).flatten ∧ w8.grownBy w9 (some q) := by
              rw [HW9.out]
              exact hE.stored3 HC0.out rfl _ _ _ (by simp) (by simp) (by simp)
            have hE9 := hE.sets (hE.ag hgq9) hst9 ((HFK.out.go (AgE.next hb8)).go (hE.ag hgq9))
            have hq7 : q ≠ w7.heap.size := by omega
            have BE9 := BE.grown hgq9 (fun e => by injection e with e; omega)
            have hgr9 := growB_own hgr hgq9 (fun r e => by injection e with e; omega)
            have hc9 := hc7.grown hgq9 (fun r e => by injection e with e; omega)
            go_upto_region 24 with fail
            rw [← HW9.out]
            have hck9 : (css.set 0 [.string y.1, .int .i64 y.2.1, .slice Ay ny cy])[k]? = some [.string y.1, .int .i64 y.2.1, .slice Ay ny cy] := by
              rw [List.getElem?_set]
              split
              · rename_i h0
                rw [if_pos (by have := hE.2.1; omega)]
              · exact HCK.out
            have HC9 := Lib.hid hck9
            clear ck0 ck1 ck2 co0 co1 co2 fo0 fo1 fo2 hst9 hgq9 hck9
            have ck0 : w9.cell? ⟨q, k * 3, none⟩ = some (.string y.1) := hE9.cells HC9.out (i := 0) rfl
            have ck1 : w9.cell? ⟨q, k * 3 + 1, none⟩ = some (.int .i64 y.2.1) := hE9.cells HC9.out (i := 1) rfl
            have ck2 : w9.cell? ⟨q, k * 3 + 2, none⟩ = some (.slice Ay ny cy) := hE9.cells HC9.out (i := 2) rfl
            have fk0 := hE9.1.frozenAt (k * 3)
            have fk1 := hE9.1.frozenAt (k * 3 + 1)
            have fk2 := hE9.1.frozenAt (k * 3 + 2)
            have ce0 := BE9.cell 0
            have ce1 := BE9.cell 1
            have ce2 := BE9.cell 2
            simp at ce0 ce1 ce2
            obtain ⟨wf, HWF⟩ : ∃ wb, Hid (wb = ((w9.setCell ⟨q, k * 3, none⟩ (.string x0.1)).setCell ⟨q, k * 3 + 1, none⟩ (.int .i64 x0.2.1)).setCell ⟨q, k * 3 + 2, none⟩ (.slice A0 n0' e0)) := ⟨_, Lib.hid rfl⟩
            have HFIN : EnD B w g (t + 20000) (.returned (.slice (some ⟨q, 0, none⟩) xs.length c)) wf := by
              obtain ⟨hstf, hgqf⟩ := hE9.stored3 HC9.out rfl (.string x0.1) (.int .i64 x0.2.1) (.slice A0 n0' e0) rfl rfl rfl
              rw [← HWF.out] at hstf hgqf
              have hF9 : FarE g w.heap.size w9 fun w => shEntry.rd w [.string x0.1, .int .i64 x0.2.1, .slice A0 n0' e0] x0 := by
                refine FarE.go ((HF0.out.go (AgE.next hb8))) (AgE.row hE.1 ?_)
                rw [HW9.out]
                exact (hE.stored3 HC0.out rfl _ _ _ (by simp) (by simp) (by simp)).2
              have hE2 := hE9.sets (hE9.ag hgqf) hstf (hF9.go (hE9.ag hgqf))
              have := EnD.mk (t' := t + 20000) hE2 (by rw [List.length_set, List.length_set]; omega) (fun x hx => by
                rcases List.mem_or_eq_of_mem_set hx with hx | rfl
                · rcases List.mem_or_eq_of_mem_set hx with hx | rfl
                  · exact HEQ.out x hx
                  · exact HYQ.out
                · exact HEQ.out x (List.mem_of_getElem? HX0.out)) (hc9.grown hgqf (fun r e => by injection e with e; omega)) (growB_own hgr9 hgqf (fun r e => by injection e with e; omega)) (by omega)
              rw [List.length_set, List.length_set] at this
              exact this
            have HFI := Lib.hid HFIN
            clear hE hE9 hgr hgr9 hc7 hc9 HFIN hb8 BE BE9 hq7
            go_wp2_with fail
            rw [← HWF.out]
            go_ret
            exact HFI.out
          · -- bare entries
            have hc7' : CurB B w7 g (t + 9010) := hc7.mono (by omega)
            have HXL : Hid (xs.length ≤ 4 + 1) := by show _ ≤ _; omega
            clear HCK HYK HFK hc7
            go_wp2_with fail
            go_loopw [3, 11] (fun l i wr => ∃ (n q c : Nat) (xs : List EntryM) (css : List (List Value)), l = .slice (some ⟨q, 0, none⟩) xs.length c ∧ i = .int .i64 (n : Int) ∧ 1 ≤ n ∧ n ≤ 6 ∧ EnS g w.heap.size wr q c xs css ∧ Hid (xs.length ≤ 4 + n) ∧ Hid (∀ y ∈ xs, EntQ y) ∧ CurB B wr g (t + 9010) ∧ w.grownBy wr (some g) ∧ TXt wr g (w.heap.size + 1)) (fun _ i _ => 6 - (intOf i).toNat)
            case atStart => exact ⟨1, _, _, xs, _, rfl, rfl, by omega, by omega, hE, HXL, HEQ, hc7', hgr, hTX⟩
            case round =>
              clear hE hc7' hgr hTX HEQ HXL
              obtain ⟨n, q, c, xs, css, rfl, rfl, hn1, hn6, hE, HXL, HEQ, hcu, hgr, hTX⟩ := hrel
              have hqr := hE.row
              have hwr := hgr.size
              have hgw := hcu.lt
              have hxl9 : xs.length ≤ 10 := by have := HXL.out; omega
              by_cases hlt : n ≤ 5
              · have hn5 : (n : Int) ≤ 5 := by omega
                obtain ⟨m, HM⟩ : ∃ m, Hid (n - 1 = m) := ⟨_, Lib.hid rfl⟩
                have hm5 : m < 5 := by have := HM.out; omega
                have f1 : (n : Int) - 1 = (m : Int) := by have := HM.out; omega
                have f2 : IntKind.i64.wrap (m : Int) = (m : Int) := by rw [IntKind.wrap_i64]; omega
                have hm0 : (0 : Int) ≤ (m : Int) := by omega
                have hm1 : (m : Int) < 5 := by omega
                obtain ⟨s, hs20, cs0⟩ : ∃ s : ByteArray, s.size ≤ 20 ∧ wr.cell? ⟨w.heap.size + 1, m, none⟩ = some (.string s) := hTX.1.2.2.2 m (by omega)
                go_wp2_with (at_builtin; refine app3 wr rfl (.tmp 100) (.tmp 109) 24 33 rfl (.agg #[.string ⟨#[]⟩, .int .i64 0, .slice none 0 0]) 48 Try.underlying24 info_entry3 rfl (by decide) w.heap.size xs.length c (some ⟨q, 0, none⟩) css.flatten (by rfl) hE.1 (.string s) (.int .i64 (n : Int)) (.slice none 0 0) rfl rfl rfl (by rfl) (by omega) (by omega) ?_; intro A8 c8 w8 hown8 hg8 hb8)
                obtain ⟨q8, rfl, hq8, -⟩ := own_formE hown8 (by omega)
                have ha8 := AgE.row (g := g) (L := w.heap.size) hE.1 hg8
                have hE2 := hE.push ha8 hown8 (FarE.bare (s := s) (n := n) (by unfold maxLen; omega) (by omega))
                have hcu8 := hcu.grown hg8 (fun r e => by have := ownB_eq e; omega)
                have hgr8 := growB_own hgr hg8 (fun r e => by have := ownB_eq e; omega)
                have hTX8 : TXt w8 g (w.heap.size + 1) := hTX.row hE.1 hg8
                have HEQ2 : Hid (∀ y ∈ xs ++ [(s, ((n : Int), []))], EntQ y) := fun y hy => by
                  rcases List.mem_append.1 hy with hy | hy
                  · exact HEQ.out y hy
                  · rw [List.mem_singleton.1 hy]
                    exact ⟨hs20, algQ_bare (by omega)⟩
                have HXL2 : Hid ((xs ++ [(s, ((n : Int), ([] : List OpM)))]).length ≤ 4 + (n + 1)) := by have := HXL.out; show _ ≤ _; simp; omega
                obtain ⟨zs, HZS⟩ : ∃ z, Hid (xs ++ [(s, ((n : Int), ([] : List OpM)))] = z) := ⟨_, Lib.hid rfl⟩
                have hzl : xs.length + 1 = zs.length := by rw [← HZS.out]; simp
                rw [HZS.out] at hE2 HEQ2 HXL2
                rw [hzl]
                clear hzl hown8 hg8 hb8 ha8 hE hcu hgr hTX
                go_roundw
                case rel => exact ⟨n + 1, q8, c8, zs, _, rfl, by go_num, by omega, by omega, hE2, HXL2, HEQ2, hcu8, hgr8, hTX8⟩
                case measure => simp [intOf]; omega
              · have hn5 : ¬ (n : Int) ≤ 5 := by omega
                go_wp2_with fail
                go_ret
                exact EnD.mk hE (by omega) HEQ.out hcu hgr (by omega)
    · have hpp : (0 : Int) < (p : Int) := by omega
      have hpi0 : (0 : Int) ≤ (p : Int) := by omega
      have hpi1 : (p : Int) < 5 := by omega
      have hAC := HAL.out B g (t + 2 + 2100 * (4 - p)) wr hcu (by have := hgr.size; omega) (by omega)
      have HAC := Lib.hid hAC
      have hgg : g < wr.heap.size := hcu.lt
      have hwr := hgr.size
      clear hAC
      go_wp2_with fail
      refine HAC.out.mono ?_
      rintro e w2 ⟨cs, x, bl, rfl, O2, I2, hQ, hc2, hg2⟩
      obtain ⟨A, m2, ca, rfl, -, -⟩ := rdAlgebra (shAlgebra.ord O2)
      replace hE := hE.go hg2 hgl
      replace hTX := hTX.grown hg2
      replace hgr := growB_trans hgr hg2
      have hz2 := hg2.size
      obtain ⟨w3, HW3⟩ : ∃ wb, Hid (wb = w2.alloc (.cells #[.int .i64 x.1, .slice A m2 ca] 27)) := ⟨_, Lib.hid rfl⟩
      have hb3 : Below w2.heap.size w2 w3 := by rw [HW3.out]; exact below_box _ _
      have BX : Blk w3 w2.heap.size 27 #[.int .i64 x.1, .slice A m2 ca] := by rw [HW3.out]; exact Blk.new _ _ _
      replace hE := hE.next hb3
      replace hTX := hTX.grown (toGr (r := some g) hb3)
      replace hgr := growB_trans hgr (toGr (r := some g) hb3)
      replace hcu := hc2.next_ hb3
      replace O2 := Sh.onext O2 hb3
      have hz3 := hb3.size
      have HTK := Lib.hid (l31Takes_any _ x w3 (shAlgebra.ord O2))
      obtain ⟨r, HR⟩ : ∃ y, Hid (w2.heap.size = y) := ⟨_, Lib.hid rfl⟩
      have cr0 := BX.cell 0
      have cr1 := BX.cell 1
      simp at cr0 cr1
      clear HAC hc2 hg2 hb3
      go_upto_region 7 with fail
      rw [← HW3.out]
      rw [HR.out] at cr0 cr1 BX ⊢
      go_wp2_with fail
      refine HTK.out.mono ?_
      rintro e w4 ⟨rfl, hb4⟩
      replace hE := hE.next hb4
      replace hTX := hTX.grown (toGr (r := some g) hb4)
      replace hgr := growB_trans hgr (toGr (r := some g) hb4)
      replace hcu := hcu.next_ hb4
      replace O2 := Sh.onext O2 hb4
      replace BX := BX.next hb4
      have hz4 := hb4.size
      obtain ⟨sm, HSMB⟩ : ∃ b, Hid (smallB x = b) := ⟨_, Lib.hid rfl⟩
      rw [HSMB.out]
      clear cr0 cr1 HTK hb4
      rcases sm with _ | _
      · go_wp2_with fail
        go_roundw
        case rel => exact ⟨p - 1, q, c, xs, css, rfl, by go_num, by omega, hE, by omega, HQS, hcu.mono (by omega), hgr, hTX⟩
        case measure => simp [intOf]; omega
      · have HSX : Hid (SmallP x) := small_iff.1 HSMB.out
        have HSC : Hid (SmallP (canA x)) := canA_small HSX.out
        have HCR : Hid (InR (canA x).1) := canA_range HSX.out
        obtain ⟨s, hs20, cs0⟩ : ∃ s : ByteArray, s.size ≤ 20 ∧ w4.cell? ⟨w.heap.size + 1, p, none⟩ = some (.string s) := hTX.1.2.2.2 p (by omega)
        have cr0 := BX.cell 0
        have cr1 := BX.cell 1
        simp at cr0 cr1
        go_upto_region 8 with fail
        refine wp_region_held_drew (S := fun w' => w'.cell? ⟨w.heap.size + 1, p, none⟩ = some (.string s) ∧ w'.cell? ⟨r, 0, none⟩ = some (.int .i64 x.1) ∧ w'.cell? ⟨r, 1, none⟩ = some (.slice A m2 ca)) (by kernel_rfl) ⟨cs0, cr0, cr1⟩ (fun hHeld0 => ?_)
        obtain ⟨wt1, Hwt1⟩ : ∃ x, Hid (x = World.drew w4) := ⟨_, rfl⟩
        have hbwt1 : Below w4.heap.size w4 wt1 := by rw [Hwt1.out]; exact (Below.refl _ _).drew
        rw [← Hwt1.out] at hHeld0 ⊢
        have ywt1 := hbwt1.size
        replace hE := hE.next hbwt1
        replace O2 := Sh.onext O2 hbwt1
        replace hcu := hcu.next_ hbwt1
        replace hgr := growB_trans hgr (toGr hbwt1)
        replace hTX := hTX.grown (toGr (r := some g) hbwt1)
        replace cs0 := keepc hbwt1 cs0
        replace cr0 := keepc hbwt1 cr0
        replace cr1 := keepc hbwt1 cr1
        refine wpAnyH_take (i := 0) (v := .slice (some ⟨q, 0, none⟩) xs.length c) rfl (by kernel_rfl) (by kernel_rfl) (by kernel_rfl) (fun _ _ _ h => h) (Or.inl ⟨by kernel_rfl, fun _ _ => by go_simp⟩) (by assumption) ?_
        (try simp only [Act.put, List.getElem_toArray, List.getElem_cons_zero, List.getElem_cons_succ, List.setIfInBounds_toArray, List.set_cons_zero, List.set_cons_succ])
        refine wpAnyH_take (i := 1) (v := .slice (some ⟨w.heap.size + 1, 0, none⟩) 5 5) rfl (by kernel_rfl) (by kernel_rfl) (by kernel_rfl) (fun _ _ _ h => h) (Or.inl ⟨by kernel_rfl, fun _ _ => by go_simp⟩) (by assumption) ?_
        (try simp only [Act.put, List.getElem_toArray, List.getElem_cons_zero, List.getElem_cons_succ, List.setIfInBounds_toArray, List.set_cons_zero, List.set_cons_succ])
        refine wpAnyH_take (i := 2) (v := .int .i64 (p : Int)) rfl (by kernel_rfl) (by kernel_rfl) (by kernel_rfl) (fun _ _ _ h => h) (Or.inl ⟨by kernel_rfl, fun _ _ => by go_simp⟩) (by assumption) ?_
        (try simp only [Act.put, List.getElem_toArray, List.getElem_cons_zero, List.getElem_cons_succ, List.setIfInBounds_toArray, List.set_cons_zero, List.set_cons_succ])
        refine wpAnyH_take (i := 3) (v := .pointer (some ⟨w.heap.size + 1, p, none⟩)) rfl (by kernel_rfl) (by kernel_rfl) (by kernel_rfl) (fun _ _ _ h => h) (Or.inl ⟨by kernel_rfl, fun _ _ => by go_simp⟩) (by assumption) ?_
        (try simp only [Act.put, List.getElem_toArray, List.getElem_cons_zero, List.getElem_cons_succ, List.setIfInBounds_toArray, List.set_cons_zero, List.set_cons_succ])
        refine wpAnyH_take (i := 4) (v := .string s) rfl (by kernel_rfl) (by kernel_rfl) (by kernel_rfl) (fun _ _ _ h => h) (Or.inl ⟨by kernel_rfl, fun wv hSw => by (obtain ⟨hS0, hS1, hS2⟩ := hSw); go_simp⟩) (by assumption) ?_
        (try simp only [Act.put, List.getElem_toArray, List.getElem_cons_zero, List.getElem_cons_succ, List.setIfInBounds_toArray, List.set_cons_zero, List.set_cons_succ])
        refine wpAnyH_take (i := 5) (v := .agg #[.int .i64 x.1, .slice A m2 ca]) rfl (by kernel_rfl) (by kernel_rfl) (by kernel_rfl) (fun _ _ _ h => h) (Or.inl ⟨by kernel_rfl, fun wv hSw => by (obtain ⟨hS0, hS1, hS2⟩ := hSw); go_simp⟩) (by assumption) ?_
        (try simp only [Act.put, List.getElem_toArray, List.getElem_cons_zero, List.getElem_cons_succ, List.setIfInBounds_toArray, List.set_cons_zero, List.set_cons_succ])
        refine wpAnyH_ready (rs := [6]) (by kernel_rfl) (by simp) ?_
        refine (AllReadyH.cons rfl (fun K hK => ?_) AllReadyH.nil)
        go_simp
        refine (l31Form_any [.int .i64 x.1, .slice A m2 ca] x wt1 (shAlgebra.ord O2) HSX.out).mono ?_
        rintro e wt2 ⟨vF, cssF, blsF, rfl, PF, hbF⟩
        obtain ⟨VF, vcF, rfl⟩ := own_slice PF.2.1
        obtain ⟨NF, HNF⟩ : ∃ y, Hid ((canA x).2.length = y) := ⟨_, Lib.hid rfl⟩
        have OF := ent_own (s := s) (by unfold maxLen; omega) (PF.algK (a := (canA x).1) HCR.out)
        rw [HNF.out] at OF ⊢
        have IF : Iv wt1.heap.size wt2.heap.size _ := PF.2.2
        have hs9 := hgr.size
        have FF : FarE g w.heap.size _ fun w => shEntry.rd w _ (s, canA x) := FarE.ent OF fun b hb => by have h9 := (IF.2 b (by first | exact hb | (rw [HNF.out]; exact hb))).1; exact ⟨by omega, by omega⟩
        go_wp2_with fail
        have ywt2 := hbF.size
        replace hE := hE.next hbF
        replace O2 := Sh.onext O2 hbF
        replace hcu := hcu.next_ hbF
        replace hgr := growB_trans hgr (toGr hbF)
        replace hTX := hTX.grown (toGr (r := some g) hbF)
        replace cs0 := keepc hbF cs0
        replace cr0 := keepc hbF cr0
        replace cr1 := keepc hbF cr1
        refine hK.out _ _ ⟨cs0, cr0, cr1⟩ (fun hHeld1 => ?_)
        clear hK K hHeld0
        (try simp only [Act.put, List.getElem_toArray, List.getElem_cons_zero, List.getElem_cons_succ, List.setIfInBounds_toArray, List.set_cons_zero, List.set_cons_succ])
        refine wpAnyH_take (i := 7) (v := .agg #[.string s, .int .i64 (canA x).1, .slice VF NF vcF]) rfl (by kernel_rfl) (by kernel_rfl) (by kernel_rfl) (fun _ _ _ h => h) (Or.inl ⟨by kernel_rfl, fun _ _ => by go_simp⟩) (by assumption) ?_
        (try simp only [Act.put, List.getElem_toArray, List.getElem_cons_zero, List.getElem_cons_succ, List.setIfInBounds_toArray, List.set_cons_zero, List.set_cons_succ])
        refine wpAnyH_ready (rs := [8]) (by kernel_rfl) (by simp) ?_
        refine (AllReadyH.cons rfl (fun K hK => ?_) AllReadyH.nil)
        go_simp
        refine (l31PutO_any q 0 c xs (s, canA x) VF NF vcF wt2 hE.rdN hE.cap FF.self (fun y hy => (HQS.out y hy).2) HSC.out (by omega)).mono ?_
        rintro e wt3 hput
        obtain ⟨q2, c2, css2, rfl, hE2, hbP⟩ := EnS.put hE FF hput
        have hL2 := insM_len xs (s, canA x)
        have HQ2 : Hid (∀ y ∈ insM xs (s, canA x), y.1.size ≤ 20 ∧ SmallP y.2) := fun y hy => (insM_mem.1 hy).elim (fun e => by rw [e]; exact ⟨by show s.size ≤ 20; omega, HSC.out⟩) (HQS.out y)
        obtain ⟨ys, HYS⟩ : ∃ y, Hid (insM xs (s, canA x) = y) := ⟨_, Lib.hid rfl⟩
        rw [HYS.out] at hE2 hL2 HQ2 ⊢
        obtain ⟨bo, HBO⟩ : ∃ y, Hid (catB ys = y) := ⟨_, Lib.hid rfl⟩
        rw [HBO.out]
        go_wp2_with fail
        have ywt3 := hbP.size
        replace hE := hE.next hbP
        replace O2 := Sh.onext O2 hbP
        replace hcu := hcu.next_ hbP
        replace hgr := growB_trans hgr (toGr hbP)
        replace hTX := hTX.grown (toGr (r := some g) hbP)
        replace cs0 := keepc hbP cs0
        replace cr0 := keepc hbP cr0
        replace cr1 := keepc hbP cr1
        refine hK.out _ _ ⟨cs0, cr0, cr1⟩ (fun hHeld2 => ?_)
        clear hK K hHeld1
        (try simp only [Act.put, List.getElem_toArray, List.getElem_cons_zero, List.getElem_cons_succ, List.setIfInBounds_toArray, List.set_cons_zero, List.set_cons_succ])
        refine wpAnyH_take (i := 9) (v := .tuple #[.slice (some ⟨q2, 0, none⟩) ys.length c2, .bool bo]) rfl (by kernel_rfl) (by kernel_rfl) (by kernel_rfl) (fun _ _ _ h => h) (Or.inl ⟨by kernel_rfl, fun _ _ => by go_simp⟩) (by assumption) ?_
        (try simp only [Act.put, List.getElem_toArray, List.getElem_cons_zero, List.getElem_cons_succ, List.setIfInBounds_toArray, List.set_cons_zero, List.set_cons_succ])
        refine wpAnyH_take (i := 10) (v := .slice (some ⟨q2, 0, none⟩) ys.length c2) rfl (by kernel_rfl) (by kernel_rfl) (by kernel_rfl) (fun _ _ _ h => h) (Or.inl ⟨by kernel_rfl, fun _ _ => by go_simp⟩) (by assumption) ?_
        (try simp only [Act.put, List.getElem_toArray, List.getElem_cons_zero, List.getElem_cons_succ, List.setIfInBounds_toArray, List.set_cons_zero, List.set_cons_succ])
        refine wpAnyH_take (i := 11) (v := .bool bo) rfl (by kernel_rfl) (by kernel_rfl) (by kernel_rfl) (fun _ _ _ h => h) (Or.inl ⟨by kernel_rfl, fun _ _ => by go_simp⟩) (by assumption) ?_
        (try simp only [Act.put, List.getElem_toArray, List.getElem_cons_zero, List.getElem_cons_succ, List.setIfInBounds_toArray, List.set_cons_zero, List.set_cons_succ])
        refine wpAnyH_take (i := 12) (v := .slice (some ⟨q2, 0, none⟩) ys.length c2) rfl (by kernel_rfl) (by kernel_rfl) (by kernel_rfl) (fun _ _ _ h => h) (Or.inl ⟨by kernel_rfl, fun _ _ => by go_simp⟩) (by assumption) ?_
        (try simp only [Act.put, List.getElem_toArray, List.getElem_cons_zero, List.getElem_cons_succ, List.setIfInBounds_toArray, List.set_cons_zero, List.set_cons_succ])
        refine wpAnyH_take (i := 13) (v := .bool bo) rfl (by kernel_rfl) (by kernel_rfl) (by kernel_rfl) (fun _ _ _ h => h) (Or.inl ⟨by kernel_rfl, fun _ _ => by go_simp⟩) (by assumption) ?_
        (try simp only [Act.put, List.getElem_toArray, List.getElem_cons_zero, List.getElem_cons_succ, List.setIfInBounds_toArray, List.set_cons_zero, List.set_cons_succ])
        refine wpAnyH_done (by kernel_rfl) ?_ _
        clear hHeld2
        rcases bo with _ | _
        · go_wp2_with fail
          go_roundw
          case rel => exact ⟨p - 1, q, c, xs, css, rfl, by go_num, by omega, hE, by omega, HQS, hcu.mono (by omega), hgr, hTX⟩
          case measure => simp [intOf]; omega
        · go_wp2_with fail
          go_roundw
          case rel => exact ⟨p - 1, q2, c2, ys, css2, rfl, by go_num, by omega, hE2, by omega, HQ2, hcu.mono (by omega), hgr, hTX⟩
          case measure => simp [intOf]; omega
end Go.Proofs.Ytkmgbdljiajlaaa
namespace Go.Proofs.Ytkmgbdljiajlaaa
open Go.RowKit
set_option linter.unusedVariables false
set_option linter.unusedSimpArgs false

theorem cat2F (a b : ByteArray) (h : a.size + b.size ≤ 1099511627776) : ∀ w, (Op.stringOp .add a b).run Try.prog w = .ok (.string (a ++ b)) w := fun w => run_string_add_sum w a b (by omega)
/-- Operations without arguments. -/
def opsF (j : Nat) : List OpM := List.replicate j (0, [0])
theorem opsF_len (j : Nat) : (opsF j).length = j := by unfold opsF; simp
theorem opsF_snoc (j : Nat) : opsF (j + 1) = opsF j ++ [(0, [0])] := by unfold opsF; rw [List.replicate_succ']
theorem algQ_full {n j : Nat} (hn : n ≤ 9) (hj : j ≤ 8) : AlgQ ((n : Int), opsF j) := by
  refine alg_q (fun o ho => ?_) (by rw [opsF_len]; exact hj) (by omega) (by omega)
  obtain rfl := List.eq_of_mem_replicate ho
  show 1 ≤ 1000
  omega
def FullE (g : Nat) (w : World) (e : Ending) (w' : World) : Prop :=
  ∃ q c xs css, e = .returned (.slice (some ⟨q, 0, none⟩) xs.length c) ∧ EnS g w.heap.size w' q c xs css ∧ xs.length ≤ 12 ∧ (∀ x ∈ xs, EntQ x) ∧ Below w.heap.size w w'
set_option maxRecDepth 100000 in
set_option maxHeartbeats 16000000 in
theorem l31Full_any (g : Nat) (w : World) (hgl : g < w.heap.size) : Calls Try.prog 37 #[] w (FullE g w) := by
  obtain ⟨w0, HW0⟩ : ∃ x, Hid (x = w.alloc (.cells #[] 33)) := ⟨_, Lib.hid rfl⟩
  have hb0 : Below w.heap.size w w0 := by rw [HW0.out]; exact below_box _ _
  have hE0 : EnS g w.heap.size w0 w.heap.size 0 [] [] := by rw [HW0.out]; exact EnS.lit w (Nat.le_refl _)
  go_enter Try.func37, Try.ntmps37
  go_upto_region 2 with fail
  rw [← HW0.out]
  go_wp2_with fail
  go_loopw [1, 2] (fun l i wr => ∃ (n q c : Nat) (xs : List EntryM) (css : List (List Value)), l = .slice (some ⟨q, 0, none⟩) xs.length c ∧ i = .int .i64 (n : Int) ∧ 1 ≤ n ∧ n ≤ 4 ∧ EnS g w.heap.size wr q c xs css ∧ Hid (xs.length = 4 * (n - 1)) ∧ Hid (∀ y ∈ xs, EntQ y) ∧ Below w.heap.size w wr) (fun _ i _ => 4 - (intOf i).toNat)
  case atStart => exact ⟨1, _, _, [], _, rfl, rfl, by omega, by omega, hE0, Lib.hid rfl, (fun y hy => by cases hy), hb0⟩
  case round =>
    clear hE0 hb0
    obtain ⟨n, q0, c0, xs0, css0, rfl, rfl, hn1, hn4, hE, hxl, HQ, hT⟩ := hrel
    by_cases hlt : n ≤ 3
    · have hnI : (n : Int) ≤ 3 := by omega
      have hnI1 : (1 : Int) ≤ (n : Int) := by omega
      go_wp2_with fail
      go_loopw [1, 3] (fun l i wi => ∃ (k q c : Nat) (xs : List EntryM) (css : List (List Value)), l = .slice (some ⟨q, 0, none⟩) xs.length c ∧ i = .int .i64 (k : Int) ∧ k ≤ 4 ∧ EnS g w.heap.size wi q c xs css ∧ Hid (xs.length = 4 * (n - 1) + k) ∧ Hid (∀ y ∈ xs, EntQ y) ∧ Below w.heap.size w wi) (fun _ i _ => 4 - (intOf i).toNat)
      case atStart => exact ⟨0, _, _, xs0, _, rfl, rfl, by omega, hE, hxl, HQ, hT⟩
      case round =>
        clear hE HQ hT hxl
        obtain ⟨k, q, c, xs, css, rfl, rfl, hk4, hE, hxl, HQ, hT⟩ := hrel
        obtain ⟨wi, rfl⟩ : ∃ x : World, x = wr := ⟨_, rfl⟩
        have hwi := hT.size
        by_cases hkt : k < 4
        · have hk0 : (0 : Int) ≤ (k : Int) := by omega
          have hk1 : (k : Int) < 4 := by omega
          obtain ⟨w2, HW2⟩ : ∃ x, Hid (x = wi.alloc (.cells #[.int .i64 (n : Int), .slice none 0 0] 27)) := ⟨_, Lib.hid rfl⟩
          have hb2 : Below wi.heap.size wi w2 := by rw [HW2.out]; exact below_box _ _
          have BA : Blk w2 wi.heap.size 27 #[.int .i64 (n : Int), .slice none 0 0] := by rw [HW2.out]; exact Blk.new _ _ _
          have hz2 : w2.heap.size = wi.heap.size + 1 := by rw [HW2.out]; simp
          go_upto_region 9 with fail
          rw [← HW2.out]
          obtain ⟨a, HA⟩ : ∃ x, Hid (wi.heap.size = x) := ⟨_, Lib.hid rfl⟩
          rw [HA.out] at BA hb2 hz2 ⊢
          go_wp2_with fail
          go_loopw [5] (fun i wj => ∃ (j : Nat) (v : Value) (cO : List (List Value)) (bO : List (List Nat)), j ≤ k ∧ i = .int .i64 (j : Int) ∧ Blk wj a 27 #[.int .i64 (n : Int), v] ∧ PO (a + 1) wj v (opsF j) cO bO ∧ Below a wi wj) (fun i _ => k - (intOf i).toNat)
          case atStart => exact ⟨0, _, [], [], Nat.zero_le _, rfl, BA, PO.nil _ _, hb2⟩
          case round =>
            clear BA hb2
            obtain ⟨j, v, cO, bO, hjk, rfl, BA, hPO, hTj⟩ := hrel
            obtain ⟨wj, rfl⟩ : ∃ x : World, x = wr := ⟨_, rfl⟩
            obtain ⟨VA, vc, rfl⟩ := own_slice hPO.2.1
            rw [opsF_len] at BA hPO
            have hal := BA.lt
            by_cases hjt : j < k
            · have hj0 : (0 : Int) ≤ (j : Int) := by omega
              have hj1 : (j : Int) < (k : Int) := by omega
              obtain ⟨w3, HW3⟩ : ∃ x, Hid (x = wj.alloc (.cells #[.int .i64 0] 3)) := ⟨_, Lib.hid rfl⟩
              have hb3 : Below wj.heap.size wj w3 := by rw [HW3.out]; exact below_box _ _
              have hz3 : w3.heap.size = wj.heap.size + 1 := by rw [HW3.out]; simp
              have how : shOp.own w3 [.int .i64 0, .slice (some ⟨wj.heap.size, 0, none⟩) 1 1] (0, [0]) [wj.heap.size] := by
                rw [HW3.out]
                exact own_tab (a := 0) (L := [0]) ⟨by omega, by omega⟩ rfl (by omega) (by intro x hx; simp at hx; subst hx; exact ⟨by omega, by omega⟩)
              obtain ⟨hvs, HPU⟩ := hPO.push hb3 (by omega) how ⟨by simp, fun b hb => by simp at hb; subst hb; omega⟩
              rw [opsF_len] at hvs HPU
              have BA3 := BA.next hb3
              have cA1 := BA.cell 1
              simp at cA1
              clear how hPO
              go_wp2_with (at_builtin; refine app2 (wj.alloc (.cells #[.int .i64 0] 3)) rfl (.tmp 24) (.tmp 27) 25 92 rfl (.agg #[.int .i64 0, .slice none 0 0]) 32 Try.underlying25 info_op2 rfl (by decide) (a + 1) j vc VA cO.flatten (by rfl) (by rw [← HW3.out]; exact hvs) (.int .i64 0) (.slice (some ⟨wj.heap.size, 0, none⟩) 1 1) rfl rfl (by rw [← HW3.out, hz3]; rfl) (by omega) (by rw [← HW3.out]; omega) ?_; rw [← HW3.out]; intro A8 c8 w8 hown8 hg8 hb8; have BA8 := BA3.grown hg8 (fun e => own_off hvs BA3 (by decide) e.symm); have cA8 := BA8.cell 1; have fA8 := BA8.frozen 1; simp at cA8)
              have PN := (HPU hown8 hg8).far (p := ⟨a, 1, none⟩) (by show a < a + 1; omega) (.slice A8 (j + 1) c8)
              have BA9 : Blk (w8.setCell ⟨a, 1, none⟩ (.slice A8 (j + 1) c8)) a 27 #[.int .i64 (n : Int), .slice A8 (j + 1) c8] := by simpa using BA8.set_ 1 (.slice A8 (j + 1) c8)
              have hT9 : Below a wi (w8.setCell ⟨a, 1, none⟩ (.slice A8 (j + 1) c8)) := ((hTj.trans (hb3.mono (by omega))).trans (hb8.mono (by omega))).setCell (p := ⟨a, 1, none⟩) (Nat.le_refl _) _
              have HFIN := Lib.hid (And.intro BA9 (And.intro PN hT9))
              clear BA9 PN hT9 HPU hvs BA BA3 hTj
              go_roundw
              case rel => exact ⟨j + 1, _, _, _, by omega, by go_num, HFIN.out.1, by rw [opsF_snoc]; exact HFIN.out.2.1, HFIN.out.2.2⟩
              case measure => simp [intOf]; omega
            · obtain rfl : j = k := by omega
              have hj1 : ¬ (j : Int) < (j : Int) := by omega
              have hTj' : Below wi.heap.size wi wj := by rw [HA.out]; exact hTj
              have hE9 := hE.next hTj'
              have hO := hPO.algK (a := (n : Int)) ⟨by omega, by omega⟩
              have hI := hPO.2.2
              have cA0 := BA.cell 0
              have cA1 := BA.cell 1
              simp at cA0 cA1
              have HTF := Lib.hid (below_next hT hTj' rfl)
              obtain ⟨j2, HJ2⟩ : ∃ x, Hid (j + 1 = x) := ⟨_, Lib.hid rfl⟩
              have w1 : IntKind.i64.wrap ((n : Int) - 1) = ((n - 1 : Nat) : Int) := by rw [IntKind.wrap_i64]; omega
              have w2' : (j : Int) + 1 = (j2 : Int) := by have := HJ2.out; omega
              have w3' : IntKind.i64.wrap (j2 : Int) = (j2 : Int) := by rw [IntKind.wrap_i64]; have := HJ2.out; omega
              have b1 : (0 : Int) ≤ ((n - 1 : Nat) : Int) := by omega
              have b2 : ((n - 1 : Nat) : Int) ≤ (n : Int) := by omega
              have b3 : (n : Int) ≤ 3 := by omega
              have b4 : (j : Int) ≤ (j2 : Int) := by omega
              have b5 : (j2 : Int) ≤ 4 := by omega
              have hs1 : ((⟨#[97, 98, 99]⟩ : ByteArray).extract (n - 1) n).size ≤ 3 := by rw [ByteArray.size_extract]; show min n 3 - _ ≤ 3; omega
              have hs2 : ((⟨#[119, 120, 121, 122]⟩ : ByteArray).extract j j2).size ≤ 4 := by rw [ByteArray.size_extract]; show min j2 4 - _ ≤ 4; omega
              have hcat := cat2F ((⟨#[97, 98, 99]⟩ : ByteArray).extract (n - 1) n) ((⟨#[119, 120, 121, 122]⟩ : ByteArray).extract j j2) (by omega)
              go_upto_region 13 with fail
              go_still (by kernel_rfl)
              show Exit.then _ _ Exit.normal _ (World.drew wj)
              obtain ⟨wd, HWD⟩ : ∃ x, Hid (x = World.drew wj) := ⟨_, Lib.hid rfl⟩
              have hbd : Below wj.heap.size wj wd := by rw [HWD.out]; exact (Below.refl _ _).drew
              rw [← HWD.out]
              obtain ⟨S1, HS1⟩ : ∃ s, Hid ((⟨#[97, 98, 99]⟩ : ByteArray).extract (n - 1) n = s) := ⟨_, Lib.hid rfl⟩
              obtain ⟨S2, HS2⟩ : ∃ s, Hid ((⟨#[119, 120, 121, 122]⟩ : ByteArray).extract j j2 = s) := ⟨_, Lib.hid rfl⟩
              rw [HS1.out] at hs1 ⊢
              rw [HS2.out] at hs2 ⊢
              obtain ⟨s, HS⟩ : ∃ s, Hid (S1 ++ S2 = s) := ⟨_, Lib.hid rfl⟩
              have hs20 : s.size ≤ 20 := by rw [← HS.out, ByteArray.size_append]; omega
              rw [HS.out]
              replace hE9 := hE9.next hbd
              replace hO := Sh.onext hO hbd
              replace cA0 := keepc hbd cA0
              replace cA1 := keepc hbd cA1
              have HTD := Lib.hid (below_next HTF.out hbd rfl)
              have hwd := HTD.out.size
              have hFE : FarE g w.heap.size wd fun w => shEntry.rd w _ (s, ((n : Int), opsF j)) := FarE.ent (ent_own (by unfold maxLen; omega) hO) fun b hb => by have := (hI.2 b hb).1; have := HA.out; exact ⟨by omega, by omega⟩
              have HFE := Lib.hid hFE
              have hxl9 : xs.length ≤ 11 := by have := hxl.out; omega
              clear hcat hs1 hs2 w1 w2' w3' b1 b2 b4 b5 hO hI hFE hPO hE HTF hTj hTj' hT BA hbd
              go_wp2_with (at_builtin; refine app3 wd rfl (.tmp 39) (.tmp 43) 24 33 rfl (.agg #[.string ⟨#[]⟩, .int .i64 0, .slice none 0 0]) 48 Try.underlying24 info_entry3 rfl (by decide) w.heap.size xs.length c (some ⟨q, 0, none⟩) css.flatten (by rfl) hE9.1 (.string s) (.int .i64 (n : Int)) (.slice VA j vc) rfl rfl rfl (by rfl) (by omega) (by omega) ?_; intro A8 c8 w8 hown8 hg8 hb8)
              obtain ⟨q8, rfl, hq8, -⟩ := own_formE hown8 (by omega)
              have ha8 := AgE.row (g := g) (L := w.heap.size) hE9.1 hg8
              have hE2 := hE9.push ha8 hown8 (HFE.out.go ha8)
              have hT8 := HTD.out.trans hb8
              have HQ2 : Hid (∀ y ∈ xs ++ [(s, ((n : Int), opsF j))], EntQ y) := fun y hy => by
                rcases List.mem_append.1 hy with hy | hy
                · exact HQ.out y hy
                · rw [List.mem_singleton.1 hy]
                  exact ⟨hs20, algQ_full (by omega) (by omega)⟩
              have HXL2 : Hid ((xs ++ [(s, ((n : Int), opsF j))]).length = 4 * (n - 1) + (j + 1)) := by have := hxl.out; show _ = _; simp; omega
              obtain ⟨zs, HZS⟩ : ∃ z, Hid (xs ++ [(s, ((n : Int), opsF j))] = z) := ⟨_, Lib.hid rfl⟩
              have hzl : xs.length + 1 = zs.length := by rw [← HZS.out]; simp
              rw [HZS.out] at hE2 HQ2 HXL2
              rw [hzl]
              clear hzl hown8 hg8 hb8 ha8 hE9
              go_roundw
              case rel => exact ⟨j + 1, q8, c8, zs, _, rfl, by go_num, by omega, hE2, HXL2, HQ2, hT8⟩
              case measure => simp [intOf]; omega
        · have hk1 : ¬ (k : Int) < 4 := by omega
          obtain rfl : k = 4 := by omega
          go_wp2_with fail
          go_roundw
          case rel => exact ⟨n + 1, q, c, xs, css, rfl, by go_num, by omega, by omega, hE, (by have := hxl.out; show _ = _; omega), HQ, hT⟩
          case measure => simp [intOf]; omega
    · have hnI : ¬ (n : Int) ≤ 3 := by omega
      go_wp2_with fail
      go_ret
      exact ⟨q0, c0, xs0, css0, rfl, hE, (by have := hxl.out; omega), HQ.out, hT⟩
end Go.Proofs.Ytkmgbdljiajlaaa
