import Derived.Test.YtbkgbckbbnflpaaGreatQ4
import Derived.Deep.CutBlock
import Derived.Deep.DeepAppendRoom
import Derived.ArgAppend
set_option linter.unusedVariables false
set_option linter.unusedSimpArgs false
set_option maxRecDepth 100000
set_option maxHeartbeats 32000000
namespace Go.Proofs.YtbkgbckbbnflpaaGreat
open Go.RowKit
theorem UL.trans {n : Nat} {ops : List OpM} {p q r : List Int} (h : UL n ops p q) (k : UL n ops q r) : UL n ops p r := ⟨fun x y hx hy hr => k.1 x y hx hy (h.1 x y hx hy hr), fun E hE hC h0 => k.2 E hE hC (h.2 E hE hC h0)⟩
theorem fixs_less {n : Nat} {p q : List Int} (P : ParP n p) (Q : ParP n q) (hk : ∀ x y, x < n → y < n → rl p x y → rl q x y) (hne : q ≠ p) : fixs n q < fixs n p := by
  obtain ⟨i, hi, hd⟩ : ∃ i, i < n ∧ nmAt q i ≠ nmAt p i := by
    apply Classical.byContradiction
    intro h
    exact hne (par_ext Q P fun i hi => Classical.byContradiction fun e => h ⟨i, hi, e⟩)
  have hp := P.at hi
  have hq := Q.at hi
  refine filter_lt (fun j hj h1 => ?_) ⟨nmAt p i, List.mem_range.2 (by omega), by simpa using hp.2.2, ?_⟩
  · rw [List.mem_range] at hj
    rw [beq_iff_eq] at h1 ⊢
    exact fixs_keep P Q hk hj h1
  · rw [beq_eq_false_iff_ne]
    intro e
    have := hk (nmAt p i) i (by omega) hi hp.2.2
    unfold rl at this
    omega
theorem fixs_pos {n : Nat} {p : List Int} (P : ParP n p) (hn : 0 < n) : 0 < fixs n p := by
  unfold fixs
  refine List.length_pos_iff.2 (List.ne_nil_of_mem (a := 0) (List.mem_filter.2 ⟨List.mem_range.2 hn, ?_⟩))
  have := (P.at hn).2.1
  rw [beq_iff_eq]
  omega
theorem fixs_leS (n : Nat) (p : List Int) : fixs n p ≤ n := by
  unfold fixs
  exact Nat.le_trans (List.length_filter_le _ _) (by simp)
/-- After k pushes. -/
def ClK (n : Nat) (ops : List OpM) (p0 : List Int) (k : Nat) (p : List Int) : Prop := ParP n p ∧ UL n ops p0 p ∧ (CompP n ops p ∨ fixs n p + k ≤ n)
theorem ClK.start {n : Nat} {ops : List OpM} {p : List Int} (P : ParP n p) : ClK n ops p 0 p := ⟨P, UL.refl _ _ _, .inr (fixs_leS n p)⟩
theorem ClK.next {n : Nat} {ops : List OpM} {p0 p q : List Int} {k : Nat} (h : ClK n ops p0 k p) (hq : PuU n ops p q (CompP n ops p)) : ClK n ops p0 (k + 1) q := by
  obtain ⟨P, hu, h3⟩ := h
  refine ⟨hq.par, hu.trans hq.ul, ?_⟩
  by_cases e : q = p
  · subst e
    exact .inl (hq.back rfl)
  · have := fixs_less P hq.par hq.keep e
    rcases h3 with h3 | h3
    · exact absurd (hq.same h3) e
    · exact .inr (by omega)
theorem ClK.done {n : Nat} {ops : List OpM} {p0 p : List Int} (h : ClK n ops p0 n p) (hn : 0 < n) : CompP n ops p := by
  obtain ⟨P, hu, h3⟩ := h
  have := fixs_pos P hn
  rcases h3 with h3 | h3
  · exact h3
  · omega
theorem l6Close_any (cs : List Value) (ops : List OpM) (n : Nat) (A : Option Addr) (c : Nat) (p0 : List Int) (w : World) (h : shAlgebra.rd w cs ((n : Int), ops)) (hx : AlgP ((n : Int), ops)) (hr : RdL RI w A n p0) (P : ParP n p0) :
    Calls Tryz.prog 108 #[.agg cs.toArray, .slice A n c] w fun e w' => ∃ A' c' p, e = .returned (.slice A' n c') ∧ RdL RI w' A' n p ∧ ParP n p ∧ CompP n ops p ∧ UL n ops p0 p ∧ Below w.heap.size w w' := by
  have hrd := h
  obtain ⟨B, m, d, rfl, -, -⟩ := rdAlgebra h
  have hn8 : n ≤ 8 := by have h1 : (n : Int) ≤ 8 := hx.2.1; omega
  have hn0 : 0 < n := by have h1 : (1 : Int) ≤ n := hx.1; omega
  obtain ⟨w0, hw0, T0, hsz0, BP⟩ := boxes1 w #[.int .i64 (n : Int), .slice B m d] 26
  have HW0 := Lib.hid hw0
  have HX := Lib.hid hx
  have HR0 := Lib.hid (shAlgebra.stab hrd T0.block)
  have r0 := hr.next stab_RI T0
  have HK0 : Hid (ClK n ops p0 0 p0) := ClK.start P
  have cP0 := BP.cell 0
  simp at cP0
  clear hw0 hrd h hx hr P
  go_enter Tryz.func108, Tryz.ntmps108
  go_upto_region 1 with fail
  rw [← HW0.out]
  go_wp2_with fail
  go_loopw [1, 5] (fun v i wr => ∃ (k : Nat) (A : Option Addr) (c : Nat) (p : List Int), k ≤ n ∧ i = .int .i64 k ∧ v = .slice A n c ∧ RdL RI wr A n p ∧ Hid (ClK n ops p0 k p) ∧ Below w0.heap.size w0 wr) (fun _ i _ => n - (intOf i).toNat)
  case atStart => exact ⟨0, A, c, p0, Nat.zero_le _, rfl, rfl, r0, HK0, Below.refl _ _⟩
  case round =>
    clear r0 HK0 cP0
    obtain ⟨k, A, c, p, hk, rfl, rfl, hr, HK, hT⟩ := hrel
    have cP0 := (BP.next hT).cell 0
    have cP1 := (BP.next hT).cell 1
    simp at cP0 cP1
    by_cases hlt : k < n
    · have hk1 : (k : Int) < (n : Int) := by omega
      have HC := Lib.hid (l6Push_any _ ((n : Int), ops) A n c p wr (shAlgebra.stab HR0.out hT.block) HX.out rfl hr HK.out.1)
      clear hr
      go_wp2_with fail
      refine HC.out.mono ?_
      rintro e w2 ⟨A2, c2, q, rfl, hr2, hq, hb2⟩
      have HK2 : Hid (ClK n ops p0 (k + 1) q) := HK.out.next hq
      have T2 := below_next hT hb2 rfl
      clear hq
      go_wp2_with fail
      go_roundw
      case rel => exact ⟨k + 1, A2, c2, q, by omega, by go_num, rfl, hr2, HK2, T2⟩
      case measure => simp [intOf]; try omega
    · obtain rfl : n = k := by omega
      have hk1 : ¬ (n : Int) < (n : Int) := by omega
      have HD : Hid (ParP n p ∧ CompP n ops p ∧ UL n ops p0 p) := ⟨HK.out.1, HK.out.done hn0, HK.out.2.1⟩
      go_wp2_with fail
      go_ret
      exact ⟨A, ⟨c, rfl⟩, p, hr, HD.out.1, HD.out.2.1, HD.out.2.2, below_next T0 hT rfl⟩
theorem pr_ofS {n : Nat} {ops : List OpM} {p : List Int} {x y : Nat} (hn : 0 < n) (hops : ∀ o ∈ ops, OpP n o) (hx : x < n) (hy : y < n) (P : ParP n p) (hc : CompP n ops p) (hu : UL n ops (uniL (upTo n) x y) p) : IsPr n ops x y p := by
  refine ⟨cong_of P hc, hu.1 x y hx hy (uni_joins (up_par n) hx hy), fun q hq hr => hu.2 (rl q) (rl_eqv n q) ((cpt_iff hn hops (cong_par hq)).1 (cong_comp hq)) (uni_least (up_par n) (rl_eqv n q) (fun a b ha hb h => ?_) hx hy hr)⟩
  unfold rl at h
  rw [nmAt_up ha, nmAt_up hb] at h
  rw [h]
  rfl
theorem l6Principal_any (cs : List Value) (ops : List OpM) (n x y : Nat) (w : World) (h : shAlgebra.rd w cs ((n : Int), ops)) (hx : AlgP ((n : Int), ops)) (hxn : x < n) (hyn : y < n) :
    Calls Tryz.prog 92 #[.agg cs.toArray, .int .i64 (x : Int), .int .i64 (y : Int)] w fun e w' => ∃ A c p, e = .returned (.slice A n c) ∧ RdL RI w' A n p ∧ IsPr n ops x y p ∧ Below w.heap.size w w' := by
  have hrd := h
  obtain ⟨B, m, d, rfl, -, -⟩ := rdAlgebra h
  have hn8 : n ≤ 8 := by have h1 : (n : Int) ≤ 8 := hx.2.1; omega
  have hn0 : 0 < n := by omega
  have hops : ∀ o ∈ ops, OpP n o := hx.2.2.2
  obtain ⟨w0, hw0, T0, hsz0, BP⟩ := boxes1 w #[.int .i64 (n : Int), .slice B m d] 26
  have HW0 := Lib.hid hw0
  have HOPS := Lib.hid hops
  have HR0 := Lib.hid (shAlgebra.stab hrd T0.block)
  have cP0 := BP.cell 0
  have cP1 := BP.cell 1
  simp at cP0 cP1
  have HI : Hid (∀ wz, Below w0.heap.size w0 wz → Calls Tryz.prog 93 #[.int .i64 (n : Int)] wz fun e w' => ∃ A' c', e = .returned (.slice A' n c') ∧ w'.ownsRow wz.heap.size 3 1 (.slice A' n c') n (ints (upTo n)) ∧ Below wz.heap.size wz w') := fun wz _ => l6Identity_any n wz (by omega)
  have HU : Hid (∀ (A : Option Addr) (c : Nat) (wz : World), Below w0.heap.size w0 wz → wz.ownsRow w0.heap.size 3 1 (.slice A n c) n (ints (upTo n)) → Calls Tryz.prog 109 #[.slice A n c, .int .i64 (x : Int), .int .i64 (y : Int)] wz fun e w' => ∃ A' c', e = .returned (.slice A' n c') ∧ w'.ownsRow wz.heap.size 3 1 (.slice A' n c') n (ints (uniL (upTo n) x y)) ∧ Below wz.heap.size wz w') := fun A c wz _ ho => l6Unite_any A n c (upTo n) x y wz (rd_of_own (R := RI) ho (RI_ints fun v hv => by have := par_in (up_par n) v hv; omega)) (up_par n) hxn hyn (by omega)
  have HC : Hid (∀ (A : Option Addr) (c : Nat) (wz : World), Below w0.heap.size w0 wz → wz.ownsRow w0.heap.size 3 1 (.slice A n c) n (ints (uniL (upTo n) x y)) → Calls Tryz.prog 108 #[.agg #[.int .i64 (n : Int), .slice B m d], .slice A n c] wz fun e w' => ∃ A' c' p, e = .returned (.slice A' n c') ∧ RdL RI w' A' n p ∧ ParP n p ∧ CompP n ops p ∧ UL n ops (uniL (upTo n) x y) p ∧ Below wz.heap.size wz w') := fun A c wz hz ho => l6Close_any _ ops n A c (uniL (upTo n) x y) wz (shAlgebra.stab HR0.out hz.block) hx (rd_of_own (R := RI) ho (RI_ints fun v hv => by have := par_in (uni_par (up_par n) hxn hyn) v hv; omega)) (uni_par (up_par n) hxn hyn)
  have Tk : Below w0.heap.size w0 w0 := Below.refl _ _
  clear hw0 hrd h hx hops
  go_enter Tryz.func92, Tryz.ntmps92
  go_upto_region 1 with fail
  rw [← HW0.out]
  go_region_held3 (fun w' => w'.cell? ⟨w.heap.size, 0, none⟩ = some (.int .i64 (n : Int)) ∧ w'.cell? ⟨w.heap.size, 1, none⟩ = some (.slice B m d)) (first | go_keep | exact ⟨keepc Tk cP0, keepc Tk cP1⟩) (first
    | (go_at_call 93; (with_reducible refine (HI.out _ ?_).mono ?_); (first | exact Tk | exact Below.drew Tk); rintro e wn ⟨A8, c8, rfl, hon, hbn⟩; replace hon := own_mono (base' := w0.heap.size) hon (by exact Tk.size); replace Tk := below_next (by first | exact Tk | exact Below.drew Tk) hbn rfl)
    | (go_at_call 109; (with_reducible refine (HU.out _ _ _ ?_ ?_).mono ?_); (first | exact Tk | exact Below.drew Tk); (first | exact hon | exact own_drewN hon 1); rintro e wn ⟨A9, c9, rfl, hon2, hbn⟩; replace hon := own_mono (base' := w0.heap.size) hon2 (by exact Tk.size); replace Tk := below_next (by first | exact Tk | exact Below.drew Tk) hbn rfl)
    | (go_at_call 108; (with_reducible refine (HC.out _ _ _ ?_ ?_).mono ?_); (first | exact Tk | exact Below.drew Tk); (first | exact hon | exact own_drewN hon 1); rintro e wn ⟨A9, c9, p, rfl, hr, hP, hc, hu, hbn⟩; replace Tk := below_next (by first | exact Tk | exact Below.drew Tk) hbn rfl))
  all_goals
    have HF : Hid (IsPr n ops x y p) := pr_ofS hn0 HOPS.out hxn hyn hP hc hu
    clear hP hc hu
    go_wp2_with fail
    go_ret
    exact ⟨A9, c9, p, rfl, hr, HF.out, below_next T0 Tk rfl⟩
theorem fixs_succS (k : Nat) (p : List Int) : fixs (k + 1) p = fixs k p + if nmAt p k == k then 1 else 0 := by
  unfold fixs
  rw [List.range_succ, List.filter_append, List.length_append]
  congr 1
  simp only [List.filter_cons, List.filter_nil]
  split <;> rfl
theorem l6Count_any (A : Option Addr) (n c : Nat) (p : List Int) (w : World) (h : RdL RI w A n p) (P : ParP n p) (hn : n ≤ 1000) :
    Calls Tryz.prog 107 #[.slice A n c] w fun e w' => e = .returned (.int .i64 (fixs n p : Nat)) ∧ w = w' := by
  go_enter Tryz.func107, Tryz.ntmps107
  go_wp2
  go_loop [3, 4] (fun m i => ∃ k : Nat, k ≤ n ∧ i = .int .i64 k ∧ m = .int .i64 (fixs k p : Nat)) (fun _ i => n - (intOf i).toNat)
  case atStart => exact ⟨0, Nat.zero_le _, rfl, rfl⟩
  case round =>
    obtain ⟨k, hk, rfl, rfl⟩ := hrel
    have hfl := fixs_leS k p
    by_cases hlt : k < n
    · have hk0 : (0 : Int) ≤ (k : Int) := by omega
      have hk1 : (k : Int) < (n : Int) := by omega
      obtain ⟨b, o, u, x, rfl, hc, ⟨rfl, -, -⟩, -, hx⟩ := h.at hlt
      have hp := (P.at hlt).1
      rw [hx] at hp
      injection hp with hp
      subst hp
      have HS := Lib.hid (fixs_succS k p)
      obtain ⟨f, HF⟩ : ∃ f, Hid (fixs k p = f) := ⟨_, Lib.hid rfl⟩
      obtain ⟨x, HX⟩ : ∃ x, Hid (nmAt p k = x) := ⟨_, Lib.hid rfl⟩
      rw [HF.out, HX.out] at HS
      rw [HX.out] at hc
      rw [HF.out] at hfl ⊢
      clear hx
      by_cases e : x = k
      · have hb : ((x : Int) == (k : Int)) = true := beq_iff_eq.2 (by omega)
        have HS2 : Hid (fixs (k + 1) p = f + 1) := by show _ = _; rw [HS.out, if_pos (by simpa using e)]
        clear e
        go_wp2
        go_round
        case rel => exact ⟨k + 1, by omega, by go_num, by rw [HS2.out]; go_num⟩
        case measure => simp [intOf]; try omega
      · have hb : ((x : Int) == (k : Int)) = false := beq_eq_false_iff_ne.2 (by omega)
        have HS2 : Hid (fixs (k + 1) p = f) := by show _ = _; rw [HS.out, if_neg (by simpa using e)]; rfl
        clear e
        go_wp2
        go_round
        case rel => exact ⟨k + 1, by omega, by go_num, by rw [HS2.out]⟩
        case measure => simp [intOf]; try omega
    · obtain rfl : k = n := by omega
      have hk1 : ¬ (k : Int) < (k : Int) := by omega
      go_wp2
      go_ret
      exact ⟨rfl, rfl⟩
/-- Where p stands in a list in order. -/
def posC (p : List Int) : List (List Int) → Nat
  | [] => 0
  | q :: L => if cgL q p then posC p L + 1 else 0
def putC (p : List Int) (L : List (List Int)) : List (List Int) := if L[posC p L]? = some p then L else L.take (posC p L) ++ p :: L.drop (posC p L)
theorem posC_le (p : List Int) : ∀ L : List (List Int), posC p L ≤ L.length
  | [] => Nat.le_refl _
  | q :: L => by
    have := posC_le p L
    rw [posC]
    split
    · rw [List.length_cons]; omega
    · exact Nat.zero_le _
theorem posC_cons (p q : List Int) (L : List (List Int)) : posC p (q :: L) = if cgL q p then posC p L + 1 else 0 := rfl
theorem putC_cons {p q : List Int} {L : List (List Int)} (h : cgL q p = true) : putC p (q :: L) = q :: putC p L := by
  unfold putC
  rw [posC_cons, if_pos h, List.getElem?_cons_succ]
  split <;> simp
theorem putC_nil {p q : List Int} {L : List (List Int)} (h : cgL q p = false) : putC p (q :: L) = if q = p then q :: L else p :: q :: L := by
  unfold putC
  rw [posC_cons, h]
  simp
theorem putC_spec (p : List Int) : ∀ {L : List (List Int)}, SrtC L → SrtC (putC p L) ∧ (∀ q, q ∈ putC p L ↔ q = p ∨ q ∈ L) ∧ (putC p L).length = L.length + (if p ∈ L then 0 else 1)
  | [], _ => ⟨List.pairwise_singleton _ _, fun q => by simp [putC, posC], by simp [putC, posC]⟩
  | q :: L, h => by
    obtain ⟨h1, h2⟩ := List.pairwise_cons.1 h
    obtain ⟨i1, i2, i3⟩ := putC_spec p (L := L) h2
    rcases e : cgL q p with _ | _
    · rw [putC_nil e]
      by_cases hq : q = p
      · rw [if_pos hq]
        refine ⟨h, fun r => ⟨.inr, fun hr => ?_⟩, by rw [if_pos (by rw [hq]; exact List.mem_cons_self)]; rfl⟩
        rcases hr with rfl | hr
        · rw [hq]; exact List.mem_cons_self
        · exact hr
      · rw [if_neg hq]
        have hpq : cgL p q = true := by
          rcases cgL_total q p with h | h | h
          · exact absurd h hq
          · rw [e] at h; cases h
          · exact h
        have hall : ∀ r ∈ q :: L, cgL p r = true := fun r hr => by
          rcases List.mem_cons.1 hr with rfl | hr
          · exact hpq
          · exact cgL_trans _ _ _ hpq (h1 r hr)
        refine ⟨List.pairwise_cons.2 ⟨hall, h⟩, fun r => by simp, ?_⟩
        rw [if_neg fun hp => cgL_irr p (hall p hp)]
        rfl
    · rw [putC_cons e]
      have hne : p ≠ q := fun h => by rw [h] at e; exact cgL_irr _ e
      refine ⟨List.pairwise_cons.2 ⟨fun r hr => ?_, i1⟩, fun r => ?_, ?_⟩
      · rcases (i2 r).1 hr with rfl | hr
        · exact e
        · exact h1 r hr
      · rw [List.mem_cons, i2, List.mem_cons]
        constructor
        · rintro (h | h | h)
          · exact .inr (.inl h)
          · exact .inl h
          · exact .inr (.inr h)
        · rintro (h | h | h)
          · exact .inr (.inl h)
          · exact .inl h
          · exact .inr (.inr h)
      · rw [List.length_cons, i3, List.length_cons]
        have : p ∈ q :: L ↔ p ∈ L := by
          rw [List.mem_cons]
          exact ⟨fun h => h.resolve_left hne, .inr⟩
        by_cases hm : p ∈ L
        · rw [if_pos hm, if_pos (this.2 hm)]
        · rw [if_neg hm, if_neg fun h => hm (this.1 h)]
/-- The walk: all before k are ahead of p. -/
theorem posC_at {p : List Int} : ∀ {L : List (List Int)} {k : Nat}, (∀ j q, j < k → L[j]? = some q → cgL q p = true) → k ≤ L.length → (∀ q, L[k]? = some q → cgL q p = false) → posC p L = k
  | [], k, _, hk, _ => by simp at hk; subst hk; rfl
  | q :: L, 0, _, _, h => by rw [posC_cons, h q rfl]; rfl
  | q :: L, k + 1, h, hk, h' => by
    rw [posC_cons, if_pos (h 0 q (by omega) rfl), posC_at (L := L) (k := k) (fun j r hj hr => h (j + 1) r (by omega) hr) (by simpa using hk) fun r hr => h' r hr]
theorem rv_rd {w : World} {A : Option Addr} {n c : Nat} {xs : List Int} (h : RV RI w (.slice A n c) xs) : RdL RI w A n xs := by
  obtain ⟨A', n', c', e, h⟩ := h
  injection e with e1 e2 e3
  subst e1 e2
  exact h
theorem rd_raw {w : World} {A : Option Addr} {n : Nat} {ts : List SlT} {L : List (List Int)} (h : RdL RSl w A n ts) (hl : L.length = n) (hI : ∀ (k : Nat) t xs, ts[k]? = some t → L[k]? = some xs → RV RI w (slV t) xs) : RdL (RV RI) w A n L := by
  refine ⟨hl, h.2.1, fun k xs hk => ?_⟩
  have hkl : k < ts.length := by rw [h.1, ← hl]; exact (List.getElem?_eq_some_iff.1 hk).1
  obtain ⟨b, o, v, e, hc, rfl⟩ := h.2.2 k ts[k] (List.getElem?_eq_getElem hkl)
  exact ⟨b, o, _, e, hc, hI k _ xs (List.getElem?_eq_getElem hkl) hk⟩
theorem ins_I {I : World → Value → List Int → Prop} {w : World} {B : Option Addr} {n m d k : Nat} {ts : List SlT} {xss : List (List Int)} {p : List Int} (hts : ts.length = n) (hx : xss.length = n) (hkn : k ≤ n) (hR : ∀ (j : Nat) t xs, ts[j]? = some t → xss[j]? = some xs → I w (slV t) xs) (hp : I w (.slice B m d) p) {j : Nat} {u : Value} {xs : List Int}
    (hu : ((ts.take k ++ (B, m, d) :: ts.drop k).map slV)[j]? = some u) (hxs : (xss.take k ++ p :: xss.drop k)[j]? = some xs) : I w u xs := by
  rw [List.getElem?_map] at hu
  obtain ⟨t, ht, rfl⟩ := Option.map_eq_some_iff.1 hu
  have l1 : (ts.take k).length = k := by rw [List.length_take, hts]; omega
  have l2 : (xss.take k).length = k := by rw [List.length_take, hx]; omega
  rcases Nat.lt_trichotomy j k with hj | hj | hj
  · rw [List.getElem?_append_left (by omega), List.getElem?_take, if_pos hj] at ht hxs
    exact hR j t xs ht hxs
  · subst hj
    rw [List.getElem?_append_right (by omega), l1, Nat.sub_self] at ht
    rw [List.getElem?_append_right (by omega), l2, Nat.sub_self] at hxs
    simp at ht hxs
    subst ht
    subst hxs
    exact hp
  · rw [List.getElem?_append_right (by omega), l1] at ht
    rw [List.getElem?_append_right (by omega), l2] at hxs
    obtain ⟨i, hi⟩ : ∃ i, j - k = i + 1 := ⟨j - k - 1, by omega⟩
    rw [hi, List.getElem?_cons_succ, List.getElem?_drop] at ht hxs
    exact hR _ t xs ht hxs
theorem less_T {p q : List Int} (h : p.length = q.length) : lessT p q = lessL p q := by
  unfold lessT
  simp [h]
theorem cgL_n {n : Nat} {p q : List Int} (P : ParP n p) (Q : ParP n q) : cgL p q = (decide (fixs n q < fixs n p) || (decide (fixs n q = fixs n p) && lessL p q)) := by
  unfold cgL
  rw [P.1, Q.1, less_T (P.1.trans Q.1.symm)]
theorem l6Put_gen (b o n c : Nat) (B : Option Addr) (N d : Nat) (L : List (List Int)) (p : List Int) (w : World) (I : World → Value → List Int → Prop) (hst : ∀ {w w' : World} {v : Value} {x : List Int}, Below w.heap.size w w' → I w v x → I w' v x) (hto : ∀ {w : World} {v : Value} {x : List Int}, I w v x → RV RI w v x)
    (ts : List SlT) (hts : RdL RSl w (some ⟨b, o, none⟩) n ts) (hlt : L.length = n) (hI : ∀ (k : Nat) t xs, ts[k]? = some t → L[k]? = some xs → I w (slV t) xs) (hpI : I w (.slice B N d) p) (hc : n ≤ c) (hn : n ≤ 1048576) (hN : N ≤ 1000) (P : ParP N p) (hL : ∀ q ∈ L, ParP N q) :
    Calls Tryz.prog 91 #[.slice (some ⟨b, o, none⟩) n c, .slice B N d] w fun e w' => ∃ b' o' n' c', e = .returned (.slice (some ⟨b', o', none⟩) n' c') ∧ Below w.heap.size w w' ∧ ((putC p L = L ∧ b' = b ∧ o' = o ∧ n' = n ∧ c' = c) ∨ (n' = n + 1 ∧ ∃ vs, w'.ownsRow w.heap.size 27 1 (.slice (some ⟨b', o', none⟩) n' c') n' vs ∧ vs.length = (putC p L).length ∧ ∀ (k : Nat) u xs, vs[k]? = some u → (putC p L)[k]? = some xs → I w' u xs)) := by
  have h : RdL (RV RI) w (some ⟨b, o, none⟩) n L := rd_raw hts hlt fun k t xs ht hx => hto (hI k t xs ht hx)
  have hp : RdL RI w B N p := rv_rd (hto hpI)
  have hle := h.le
  have hlen := Lib.hid h.len
  have HLP := Lib.hid hL
  have HPP := Lib.hid P
  clear hL P
  go_enter Tryz.func91, Tryz.ntmps91
  go_upto_block 0 with fail
  go_cut [5] from 5 to 39 (fun v wx => v = .int .i64 (posC p L : Nat) ∧ Drawn w wx)
  case first =>
    go_wp2_with fail
    go_loopw [5] (fun i wr => ∃ k : Nat, k ≤ n ∧ i = .int .i64 k ∧ Hid (∀ j q, j < k → L[j]? = some q → cgL q p = true) ∧ Drawn w wr) (fun i _ => n - (intOf i).toNat)
    case atStart => exact ⟨0, Nat.zero_le _, rfl, fun j q hj => absurd hj (by omega), Drawn.zero _⟩
    case round =>
      obtain ⟨k, hk, rfl, H, z, rfl⟩ := hrel
      by_cases hlt : k < n
      · have hk0 : (0 : Int) ≤ (k : Int) := by omega
        have hk1 : (k : Int) < (n : Int) := by omega
        obtain ⟨v, q, hcq, ⟨Q, j, dq, rfl, hq⟩, -, hx⟩ := h.at' hlt
        have hq0 := HLP.out q (List.mem_of_getElem? hx)
        obtain rfl : N = j := by rw [← hq.len]; exact hq0.1.symm
        have HCG := Lib.hid (cgL_n hq0 HPP.out)
        have HQ := Lib.hid (l6Count_any Q N dq q (w.drewN z) (hq.drewN stab_RI _) hq0 hN)
        have HQ2 := Lib.hid (l6Count_any B N d p (w.drewN z) (hp.drewN stab_RI _) HPP.out hN)
        have HX := Lib.hid hx
        obtain ⟨f, HF⟩ : ∃ f, Hid (fixs N q = f) := ⟨_, Lib.hid rfl⟩
        obtain ⟨g, HG⟩ : ∃ g, Hid (fixs N p = g) := ⟨_, Lib.hid rfl⟩
        rw [HF.out] at HQ HCG
        rw [HG.out] at HQ2 HCG
        have HSTEP : Hid (cgL q p = true → ∀ j' q', j' < k + 1 → L[j']? = some q' → cgL q' p = true) := fun hh j' q' hj' hx' => by
          by_cases e : j' = k
          · subst e
            rw [HX.out] at hx'
            injection hx' with hx'
            rw [← hx']
            exact hh
          · exact H.out j' q' (by omega) hx'
        have HSTOP : Hid (cgL q p = false → posC p L = k) := fun hh => posC_at H.out (by rw [hlen.out]; exact hk) fun q' hx' => by
          rw [HX.out] at hx'
          injection hx' with hx'
          rw [← hx']
          exact hh
        clear hx hq0
        go_wp2_with fail
        refine HQ.out.mono ?_
        rintro e w' ⟨rfl, rfl⟩
        go_wp2_with fail
        refine HQ2.out.mono ?_
        rintro e w' ⟨rfl, rfl⟩
        by_cases h1 : g < f
        · have h1' : (g : Int) < (f : Int) := by omega
          have HC2 : Hid (cgL q p = true) := by show _ = _; rw [HCG.out, decide_eq_true h1]; rfl
          have HS2 := Lib.hid (HSTEP.out HC2.out)
          clear h1
          go_wp2_with fail
          go_roundw
          case rel => exact ⟨k + 1, by omega, by go_num, HS2, z, rfl⟩
          case measure => simp [intOf]; try omega
        · have h1' : ¬ (g : Int) < (f : Int) := by omega
          go_wp2_with fail
          refine HQ.out.mono ?_
          rintro e w' ⟨rfl, rfl⟩
          go_wp2_with fail
          refine HQ2.out.mono ?_
          rintro e w' ⟨rfl, rfl⟩
          by_cases h2 : f = g
          · have h2' : ((f : Int) == (g : Int)) = true := beq_iff_eq.2 (by omega)
            have HC2 : Hid (cgL q p = lessL q p) := by show _ = _; rw [HCG.out, decide_eq_false h1, decide_eq_true h2.symm]; rfl
            have HLS := l5Less_any Q B N dq d q p (w.drewN z) (hq.drewN stab_RI _) (hp.drewN stab_RI _)
            obtain ⟨r, HR⟩ : ∃ r, Hid (lessL q p = r) := ⟨_, Lib.hid rfl⟩
            rw [HR.out] at HLS HC2
            have HLS := Lib.hid HLS
            clear h1 h2
            go_wp2_with fail
            refine HLS.out.mono ?_
            rintro e w' ⟨rfl, z', rfl⟩
            rcases r with _ | _
            · have HE := Lib.hid (HSTOP.out HC2.out)
              go_wp2_with fail
              go_meet
              exact ⟨by rw [HE.out], (by first | exact Drawn.zero _ | exact Drawn.at_ _ _ | exact (Drawn.at_ _ _).more _ | exact ((Drawn.at_ _ _).more _).more _)⟩
            · have HS2 := Lib.hid (HSTEP.out HC2.out)
              go_wp2_with fail
              go_roundw
              case rel => exact ⟨k + 1, by omega, by go_num, HS2, (by first | exact Drawn.zero _ | exact Drawn.at_ _ _ | exact (Drawn.at_ _ _).more _ | exact ((Drawn.at_ _ _).more _).more _)⟩
              case measure => simp [intOf]; try omega
          · have h2' : ((f : Int) == (g : Int)) = false := beq_eq_false_iff_ne.2 (by omega)
            have HE : Hid (posC p L = k) := HSTOP.out (by rw [HCG.out, decide_eq_false h1, decide_eq_false (fun e => h2 e.symm)]; rfl)
            clear h1 h2
            go_wp2_with fail
            go_meet
            exact ⟨by rw [HE.out], z, rfl⟩
      · obtain rfl : n = k := by omega
        have hk1 : ¬ (n : Int) < (n : Int) := by omega
        have HE : Hid (posC p L = n) := posC_at H.out (by rw [hlen.out]; exact hk) fun q hq => by rw [List.getElem?_eq_none (by rw [hlen.out]; exact Nat.le_refl _)] at hq; cases hq
        go_wp2_with fail
        go_meet
        exact ⟨by rw [HE.out], z, rfl⟩
  case rest =>
    obtain ⟨rfl, z, rfl⟩ := hcut
    obtain ⟨k, HK⟩ : ∃ k, Hid (posC p L = k) := ⟨_, Lib.hid rfl⟩
    have hkn : k ≤ n := by rw [← HK.out, ← hlen.out]; exact posC_le p L
    rw [HK.out]
    obtain ⟨sb, HSB⟩ : ∃ s, Hid (s = decide (L[k]? = some p)) := ⟨_, Lib.hid rfl⟩
    go_upto_region 4 with fail
    go_cut [51] from 40 to 51 (fun v wx => v = .bool sb ∧ Drawn w wx)
    case first =>
      by_cases hlt : k < n
      · have hk0 : (0 : Int) ≤ (k : Int) := by omega
        have hk1 : (k : Int) < (n : Int) := by omega
        obtain ⟨v, q, hcq, ⟨Q, j, dq, rfl, hq⟩, -, hx⟩ := h.at' hlt
        have hq0 := HLP.out q (List.mem_of_getElem? hx)
        obtain rfl : N = j := by rw [← hq.len]; exact hq0.1.symm
        have HE : Hid (eqL q p = sb) := by
          show _ = _
          rw [HSB.out, hx, Bool.eq_iff_iff, eqL_iff, decide_eq_true_iff]
          exact ⟨fun e => by rw [e], fun e => by injection e⟩
        have HS := l1Same_any Q B N N dq d q p (w.drewN z) (hq.drewN stab_RI _) (hp.drewN stab_RI _)
        rw [HE.out] at HS
        have HS := Lib.hid HS
        clear hx hq0
        go_wp2_with fail
        refine HS.out.mono ?_
        rintro e w' ⟨rfl, z', rfl⟩
        go_wp2_with fail
        go_meet
        exact ⟨rfl, (by first | exact Drawn.zero _ | exact Drawn.at_ _ _ | exact (Drawn.at_ _ _).more _ | exact ((Drawn.at_ _ _).more _).more _)⟩
      · have hk1 : ¬ (k : Int) < (n : Int) := by omega
        have HE : Hid (sb = false) := by show _ = _; rw [HSB.out, List.getElem?_eq_none (by rw [hlen.out]; omega)]; rfl
        go_wp2_with fail
        go_meet
        exact ⟨by rw [HE.out], z, rfl⟩
    case rest =>
      obtain ⟨rfl, z, rfl⟩ := hcut
      rcases sb with _ | _
      · have HPC : Hid (putC p L = L.take k ++ p :: L.drop k) := by
          show _ = _
          unfold putC
          rw [HK.out, if_neg (decide_eq_false_iff_not.1 HSB.out.symm)]
        clear HSB
        go_wp2_with fail
        have hk2 : (0 : Int) ≤ (k : Int) := by omega
        have hk3 : (k : Int) ≤ (n : Int) := by omega
        have hk1 : (k : Int) ≤ (c : Int) := by omega
        have HTS := Lib.hid hts.len
        by_cases hkc : c = k
        · have hnk : n = k := by omega
          have HD0 : Hid (ts.drop k = []) := List.drop_eq_nil_of_le (by rw [HTS.out]; omega)
          have HNK := Lib.hid hnk
          subst hkc
          go_region_law (first
            | (refine step_appAny _ rfl (.tmp 53) (.tmp 56) 33 27 rfl (.slice none 0 0) 24 Tryz.underlying33 info_ints rfl (by decide) w.heap.size 0 0 (some ⟨w.heap.size, 0, none⟩) [] (by rfl) (by first | exact lit0 _ (by simp) | exact (lit0 _ (by simp)).alloc _) (some ⟨b, o, none⟩) c c (ts.take c) slV (fun _ => rfl) (by rfl) ((hts.take (k := c) (by omega)).next stab_RSl (by first | exact (below_drewN (Below.refl _ _) _).alloc (by simp) _ | exact ((below_drewN (Below.refl _ _) _).alloc (by simp) _).alloc (by first | (simp; done) | (simp; omega)) _)) (fun _ _ _ hr => hr) (by omega) (by first | (simp; done) | (simp; omega)) ?_; intro A2 c2 w2 hown2 hg2 hb2; simp only [Nat.zero_add, List.nil_append] at hown2)
            | (refine step_appAny _ rfl (.tmp 53) (.tmp 56) 33 27 rfl (.slice none 0 0) 24 Tryz.underlying33 info_ints rfl (by decide) w.heap.size 0 0 (some ⟨w.heap.size + 1, 0, none⟩) [] (by rfl) (lit1 _ (by simp)) (some ⟨b, o, none⟩) c c (ts.take c) slV (fun _ => rfl) (by rfl) ((hts.take (k := c) (by omega)).next stab_RSl (by first | exact (below_drewN (Below.refl _ _) _).alloc (by simp) _ | exact ((below_drewN (Below.refl _ _) _).alloc (by simp) _).alloc (by first | (simp; done) | (simp; omega)) _)) (fun _ _ _ hr => hr) (by omega) (by first | (simp; done) | (simp; omega)) ?_; intro A2 c2 w2 hown2 hg2 hb2; simp only [Nat.zero_add, List.nil_append] at hown2)
            | (refine step_appAny (R := RSl) _ rfl (.tmp 57) (.tmp 59) 33 27 rfl (.slice none 0 0) 24 Tryz.underlying33 info_ints rfl (by decide) w.heap.size c c2 A2 ((ts.take c).map slV) (by rfl) (hown2.alloc _) (some ⟨w2.heap.size, 0, none⟩) 1 1 [(B, N, d)] slV (fun _ => rfl) (by rfl) (rd_cell (t := (B, N, d)) (cell_new _ rfl)) (fun _ _ _ hr => hr) (by omega) (by have h1 := hb2.size; first | (simp at h1; omega) | (simp at h1 ⊢; omega) | (simp; omega) | omega) ?_; intro A3 c3 w3 hown3 hg3 hb3)
            | (refine step_appAny (R := RSl) _ rfl (.tmp 57) (.tmp 59) 33 27 rfl (.slice none 0 0) 24 Tryz.underlying33 info_ints rfl (by decide) w.heap.size c c2 A2 ((ts.take c).map slV) (by rfl) hown2 (some ⟨w.heap.size + 1, 0, none⟩) 1 1 [(B, N, d)] slV (fun _ => rfl) (by rfl) (rd_cell (t := (B, N, d)) (hg2.cell (v := slV (B, N, d)) (cell_new _ (by simp)) (by simp [Value.ownBlock]))) (fun _ _ _ hr => hr) (by omega) (by have h1 := hb2.size; first | (simp at h1; omega) | (simp at h1 ⊢; omega) | (simp; omega) | omega) ?_; intro A3 c3 w3 hown3 hg3 hb3)
            | (refine step_appAny (R := RSl) _ rfl (.tmp 57) (.tmp 59) 33 27 rfl (.slice none 0 0) 24 Tryz.underlying33 info_ints rfl (by decide) w.heap.size c c2 A2 ((ts.take c).map slV) (by rfl) hown2 (some ⟨w.heap.size, 0, none⟩) 1 1 [(B, N, d)] slV (fun _ => rfl) (by rfl) (rd_cell (t := (B, N, d)) (hg2.cell (v := slV (B, N, d)) (cell_new2 _ _ (by simp)) (by simp [Value.ownBlock]))) (fun _ _ _ hr => hr) (by omega) (by have h1 := hb2.size; first | (simp at h1; omega) | (simp at h1 ⊢; omega) | (simp; omega) | omega) ?_; intro A3 c3 w3 hown3 hg3 hb3)
            | (refine step_appAny _ rfl (.tmp 60) (.tmp 63) 33 27 rfl (.slice none 0 0) 24 Tryz.underlying33 info_ints rfl (by decide) w.heap.size (c + 1) c3 A3 ((ts.take c).map slV ++ [slV (B, N, d)]) (by rfl) hown3 (some ⟨b, o, none⟩) 0 0 ([] : List SlT) slV (fun _ => rfl) (by rfl) (RdL.nil _ _ _) (fun _ _ _ hr => hr) (by omega) (by have h1 := hb2.size; have h2 := hb3.size; first | (simp at h1; omega) | (simp at h1 h2; omega) | (simp at h2; omega) | omega) ?_; intro A4 c4 w4 hown4 hg4 hb4))
          all_goals
            have hF3 : Below w.heap.size w w3 := (by refine Below.trans ?_ hb3; first | (refine Below.trans ?_ hb2; first | exact (below_drewN (Below.refl _ _) _).alloc (by simp) _ | exact ((below_drewN (Below.refl _ _) _).alloc (by simp) _).alloc (by first | (simp; done) | (simp; omega)) _) | (refine Below.alloc ?_ (by have h1 := hb2.size; first | (simp at h1; omega) | omega) _; refine Below.trans ?_ hb2; first | exact (below_drewN (Below.refl _ _) _).alloc (by simp) _ | exact ((below_drewN (Below.refl _ _) _).alloc (by simp) _).alloc (by first | (simp; done) | (simp; omega)) _))
            have hF := hF3.trans hb4
            have e1 : c + 1 + 0 = n + 1 := by omega
            rw [e1] at hown4
            have eL : (ts.take c).map slV ++ [slV (B, N, d)] ++ (([] : List SlT)).map slV = ((ts.take c) ++ (B, N, d) :: ts.drop c).map slV := by simp [HD0.out]
            rw [eL] at hown4
            obtain ⟨g4, hA4, -, hcap⟩ := own_form hown4 (by omega)
            have HF := Lib.hid hF
            have HO4 := Lib.hid hown4
            rw [hA4] at HO4
            have HA4 := Lib.hid hA4
            clear hA4 e1 eL
            go_wp2
            go_ret
            exact ⟨g4, 0, n + 1, c4, by rw [← HA4.out, HNK.out]; rfl, HF.out, .inr ⟨rfl, _, HO4.out, by rw [HPC.out]; simp [HTS.out, hlen.out], fun j u xs hu hxs => by rw [HPC.out] at hxs; exact ins_I HTS.out hlen.out (by omega) (fun j t xs ht hx => hst HF.out (hI j t xs ht hx)) (hst HF.out hpI) hu hxs⟩⟩
        · go_region_law (first
            | (refine step_appAny _ rfl (.tmp 53) (.tmp 56) 33 27 rfl (.slice none 0 0) 24 Tryz.underlying33 info_ints rfl (by decide) w.heap.size 0 0 (some ⟨w.heap.size, 0, none⟩) [] (by rfl) (by first | exact lit0 _ (by simp) | exact (lit0 _ (by simp)).alloc _) (some ⟨b, o, none⟩) k c (ts.take k) slV (fun _ => rfl) (by rfl) ((hts.take (k := k) (by omega)).next stab_RSl (by first | exact (below_drewN (Below.refl _ _) _).alloc (by simp) _ | exact ((below_drewN (Below.refl _ _) _).alloc (by simp) _).alloc (by first | (simp; done) | (simp; omega)) _)) (fun _ _ _ hr => hr) (by omega) (by first | (simp; done) | (simp; omega)) ?_; intro A2 c2 w2 hown2 hg2 hb2; simp only [Nat.zero_add, List.nil_append] at hown2)
            | (refine step_appAny _ rfl (.tmp 53) (.tmp 56) 33 27 rfl (.slice none 0 0) 24 Tryz.underlying33 info_ints rfl (by decide) w.heap.size 0 0 (some ⟨w.heap.size + 1, 0, none⟩) [] (by rfl) (lit1 _ (by simp)) (some ⟨b, o, none⟩) k c (ts.take k) slV (fun _ => rfl) (by rfl) ((hts.take (k := k) (by omega)).next stab_RSl (by first | exact (below_drewN (Below.refl _ _) _).alloc (by simp) _ | exact ((below_drewN (Below.refl _ _) _).alloc (by simp) _).alloc (by first | (simp; done) | (simp; omega)) _)) (fun _ _ _ hr => hr) (by omega) (by first | (simp; done) | (simp; omega)) ?_; intro A2 c2 w2 hown2 hg2 hb2; simp only [Nat.zero_add, List.nil_append] at hown2)
            | (refine step_appAny (R := RSl) _ rfl (.tmp 57) (.tmp 59) 33 27 rfl (.slice none 0 0) 24 Tryz.underlying33 info_ints rfl (by decide) w.heap.size k c2 A2 ((ts.take k).map slV) (by rfl) (hown2.alloc _) (some ⟨w2.heap.size, 0, none⟩) 1 1 [(B, N, d)] slV (fun _ => rfl) (by rfl) (rd_cell (t := (B, N, d)) (cell_new _ rfl)) (fun _ _ _ hr => hr) (by omega) (by have h1 := hb2.size; first | (simp at h1; omega) | (simp at h1 ⊢; omega) | (simp; omega) | omega) ?_; intro A3 c3 w3 hown3 hg3 hb3)
            | (refine step_appAny (R := RSl) _ rfl (.tmp 57) (.tmp 59) 33 27 rfl (.slice none 0 0) 24 Tryz.underlying33 info_ints rfl (by decide) w.heap.size k c2 A2 ((ts.take k).map slV) (by rfl) hown2 (some ⟨w.heap.size + 1, 0, none⟩) 1 1 [(B, N, d)] slV (fun _ => rfl) (by rfl) (rd_cell (t := (B, N, d)) (hg2.cell (v := slV (B, N, d)) (cell_new _ (by simp)) (by simp [Value.ownBlock]))) (fun _ _ _ hr => hr) (by omega) (by have h1 := hb2.size; first | (simp at h1; omega) | (simp at h1 ⊢; omega) | (simp; omega) | omega) ?_; intro A3 c3 w3 hown3 hg3 hb3)
            | (refine step_appAny (R := RSl) _ rfl (.tmp 57) (.tmp 59) 33 27 rfl (.slice none 0 0) 24 Tryz.underlying33 info_ints rfl (by decide) w.heap.size k c2 A2 ((ts.take k).map slV) (by rfl) hown2 (some ⟨w.heap.size, 0, none⟩) 1 1 [(B, N, d)] slV (fun _ => rfl) (by rfl) (rd_cell (t := (B, N, d)) (hg2.cell (v := slV (B, N, d)) (cell_new2 _ _ (by simp)) (by simp [Value.ownBlock]))) (fun _ _ _ hr => hr) (by omega) (by have h1 := hb2.size; first | (simp at h1; omega) | (simp at h1 ⊢; omega) | (simp; omega) | omega) ?_; intro A3 c3 w3 hown3 hg3 hb3)
            | (refine step_appAny _ rfl (.tmp 60) (.tmp 63) 33 27 rfl (.slice none 0 0) 24 Tryz.underlying33 info_ints rfl (by decide) w.heap.size (k + 1) c3 A3 ((ts.take k).map slV ++ [slV (B, N, d)]) (by rfl) hown3 (some ⟨b, o + k, none⟩) (n - k) (c - k) (ts.drop k) slV (fun _ => rfl) (by rfl) ((hts.drop k).next stab_RSl (by refine Below.trans ?_ hb3; first | (refine Below.trans ?_ hb2; first | exact (below_drewN (Below.refl _ _) _).alloc (by simp) _ | exact ((below_drewN (Below.refl _ _) _).alloc (by simp) _).alloc (by first | (simp; done) | (simp; omega)) _) | (refine Below.alloc ?_ (by have h1 := hb2.size; first | (simp at h1; omega) | omega) _; refine Below.trans ?_ hb2; first | exact (below_drewN (Below.refl _ _) _).alloc (by simp) _ | exact ((below_drewN (Below.refl _ _) _).alloc (by simp) _).alloc (by first | (simp; done) | (simp; omega)) _))) (fun _ _ _ hr => hr) (by omega) (by have h1 := hb2.size; have h2 := hb3.size; first | (simp at h1; omega) | (simp at h1 h2; omega) | (simp at h2; omega) | omega) ?_; intro A4 c4 w4 hown4 hg4 hb4))
          all_goals
            have hF3 : Below w.heap.size w w3 := (by refine Below.trans ?_ hb3; first | (refine Below.trans ?_ hb2; first | exact (below_drewN (Below.refl _ _) _).alloc (by simp) _ | exact ((below_drewN (Below.refl _ _) _).alloc (by simp) _).alloc (by first | (simp; done) | (simp; omega)) _) | (refine Below.alloc ?_ (by have h1 := hb2.size; first | (simp at h1; omega) | omega) _; refine Below.trans ?_ hb2; first | exact (below_drewN (Below.refl _ _) _).alloc (by simp) _ | exact ((below_drewN (Below.refl _ _) _).alloc (by simp) _).alloc (by first | (simp; done) | (simp; omega)) _))
            have hF := hF3.trans hb4
            have e1 : k + 1 + (n - k) = n + 1 := by omega
            rw [e1] at hown4
            have eL : (ts.take k).map slV ++ [slV (B, N, d)] ++ (ts.drop k).map slV = ((ts.take k) ++ (B, N, d) :: ts.drop k).map slV := by simp
            rw [eL] at hown4
            obtain ⟨g4, hA4, -, hcap⟩ := own_form hown4 (by omega)
            have HF := Lib.hid hF
            have HO4 := Lib.hid hown4
            rw [hA4] at HO4
            have HA4 := Lib.hid hA4
            clear hA4 e1 eL
            go_wp2
            go_ret
            exact ⟨g4, 0, n + 1, c4, by rw [← HA4.out, show k + 1 + (n - k) = n + 1 from by omega]; rfl, HF.out, .inr ⟨rfl, _, HO4.out, by rw [HPC.out]; simp [HTS.out, hlen.out], fun j u xs hu hxs => by rw [HPC.out] at hxs; exact ins_I HTS.out hlen.out (by omega) (fun j t xs ht hx => hst HF.out (hI j t xs ht hx)) (hst HF.out hpI) hu hxs⟩⟩
      · have HPC : Hid (putC p L = L) := by
          show _ = _
          unfold putC
          rw [HK.out, if_pos (decide_eq_true_iff.1 HSB.out.symm)]
        clear HSB
        go_wp2_with fail
        go_ret
        exact ⟨b, o, n, c, rfl, below_drewN (Below.refl _ _) _, .inl ⟨HPC.out, rfl, rfl, rfl, rfl⟩⟩
theorem app1at {P : Program} (w0 : World) {ops : Array Oper} {rest : List Oper} {o : Oper} {a : Act} {Q : Exit → Act → World → Prop} (hgd : o.guard = none) (s x : Operand) (t e : TypeId)
    (ho : o.op = .call { callee := .builtin .append, args := #[s, x], argTypes := #[t, t] }) (z : Value) (bytes : Nat)
    (ht : P.underlying t = some (.slice e)) (hi : (P.info? e).map (fun i => (i.zero, i.size, i.bytes)) = some (some z, 1, bytes)) (hzs : z.cells.size = 1) (hbb : bytes ≤ 64)
    (base n c : Nat) (A : Option Addr) (xs : List Value) (hs : a.eval s = .slice A n c) (hown : w0.ownsRow base e 1 (.slice A n c) n xs) (u : Value) (h1 : u.oneCell' = true) (hx : a.eval x = .slice (some ⟨w0.heap.size, 0, none⟩) 1 1)
    (hn : n ≤ 1099511627776) (hbase : base ≤ w0.heap.size)
    (hK : ∀ A' c' w', w'.ownsRow base e 1 (.slice A' (n + 1) c') (n + 1) (xs ++ [u]) → w0.grownBy w' (Value.slice A n c).ownBlock → Below base w0 w' → ((Value.slice A' (n + 1) c').ownBlock = (Value.slice A n c).ownBlock ∨ (Value.slice A' (n + 1) c').ownBlock = some (w0.heap.size + 1)) → wpList P ops Q rest (a.put o.dst (.slice A' (n + 1) c')) w') :
    wpList P ops Q (o :: rest) a (w0.alloc (.cells #[u] e)) := by
  refine wpList_plain hgd fun K hK' => ?_
  have h := step_app1at (ops := #[]) (E := True) (K := K) (Q := Q) w0 hgd s x t e ho z bytes ht hi hzs hbb base n c A xs hs hown u h1 hx hn hbase (fun A' c' w' k1 k2 k3 k4 => hK' _ _ (hK A' c' w' k1 k2 k3 k4))
  rw [if_pos (by simp [Region.wanted, hgd])] at h
  exact h
/-- A row of numbers of the call's own. -/
def IO (lo : Nat) (w : World) (v : Value) (xs : List Int) : Prop := w.ownsRow lo 3 1 v xs.length (ints xs) ∧ ∀ x ∈ xs, -9223372036854775808 ≤ x ∧ x ≤ 9223372036854775807
theorem IO.next {lo : Nat} {w w' : World} {v : Value} {xs : List Int} (hb : Below w.heap.size w w') (h : IO lo w v xs) : IO lo w' v xs := ⟨own_next h.1 hb, h.2⟩
theorem IO.rv {lo : Nat} {w : World} {v : Value} {xs : List Int} (h : IO lo w v xs) : RV RI w v xs := by
  obtain ⟨A, c, e⟩ := own_slice h.1
  have h1 := h.1
  rw [e] at h1 ⊢
  exact ⟨A, _, c, rfl, rd_of_own (R := RI) h1 (RI_ints h.2)⟩
/-- A matrix whose outer row is the call's own; its rows may stand elsewhere too. -/
def MatS (lo : Nat) (w : World) (A : Option Addr) (n c : Nat) (xss : List (List Int)) : Prop := ∃ ts : List SlT, w.ownsRow lo 27 1 (.slice A n c) n (ts.map slV) ∧ xss.length = n ∧ ∀ (k : Nat) t xs, ts[k]? = some t → xss[k]? = some xs → IO lo w (slV t) xs
section
variable {lo n c : Nat} {w w' : World} {A : Option Addr} {xss : List (List Int)}
theorem MatS.next (h : MatS lo w A n c xss) (hb : Below w.heap.size w w') : MatS lo w' A n c xss := by
  obtain ⟨ts, h1, h2, h3⟩ := h
  exact ⟨ts, own_next h1 hb, h2, fun k t xs ht hx => (h3 k t xs ht hx).next hb⟩
theorem MatS.raw (h : MatS lo w A n c xss) : ∃ ts : List SlT, RdL RSl w A n ts ∧ xss.length = n ∧ ∀ (k : Nat) t xs, ts[k]? = some t → xss[k]? = some xs → IO lo w (slV t) xs := by
  obtain ⟨ts, h1, h2, h3⟩ := h
  exact ⟨ts, rd_of_own (R := RSl) h1 (fun x _ => rfl), h2, h3⟩
theorem MatS.rd (h : MatS lo w A n c xss) : RdL (RV RI) w A n xss := by
  obtain ⟨ts, h1, h2, h3⟩ := h.raw
  exact rd_raw h1 h2 fun k t xs ht hx => (h3 k t xs ht hx).rv
/-- Of another row that grows, no block is the matrix's. -/
theorem MatS.grown {g : Value} {m : Nat} {us : List Value} (h : MatS lo w A n c xss) (hg : w.ownsRow lo 27 1 g m us) (hr : w.grownBy w' g.ownBlock) (hne : ∀ b, (Value.slice A n c).ownBlock = some b → g.ownBlock ≠ some b) : MatS lo w' A n c xss := by
  obtain ⟨ts, h1, h2, h3⟩ := h
  refine ⟨ts, own_same h1 fun b hb => hr.block b (h1.lt b hb).2 fun e => hne b hb e.symm, h2, fun k t xs ht hx => ⟨own_same (h3 k t xs ht hx).1 fun b hb => hr.block b ((h3 k t xs ht hx).1.lt b hb).2 fun e => own_ne (h3 k t xs ht hx).1 hg (by decide) hb e.symm, (h3 k t xs ht hx).2⟩⟩
/-- One row more. -/
theorem MatS.snoc {t : SlT} {xs : List Int} {A' : Option Addr} {c' : Nat} {ts : List SlT} (h1 : w.ownsRow lo 27 1 (.slice A n c) n (ts.map slV)) (h2 : xss.length = n) (h3 : ∀ (k : Nat) t xs, ts[k]? = some t → xss[k]? = some xs → IO lo w (slV t) xs) (ht : IO lo w (slV t) xs)
    (ho : w'.ownsRow lo 27 1 (.slice A' (n + 1) c') (n + 1) (ts.map slV ++ [slV t])) (hr : w.grownBy w' (Value.slice A n c).ownBlock) : MatS lo w' A' (n + 1) c' (xss ++ [xs]) := by
  have far : ∀ {v : Value} {ys : List Int}, IO lo w v ys → IO lo w' v ys := fun hi => ⟨own_same hi.1 fun b hb => hr.block b (hi.1.lt b hb).2 fun e => own_ne hi.1 h1 (by decide) hb e.symm, hi.2⟩
  have hl : ts.length = n := by have := h1.1; simpa using this
  refine ⟨ts ++ [t], by rw [List.map_append]; exact ho, by simp [h2], fun k u ys hu hy => ?_⟩
  by_cases hk : k < n
  · rw [List.getElem?_append_left (by omega)] at hu hy
    exact far (h3 k u ys hu hy)
  · have hk2 : k = n := by
      have := (List.getElem?_eq_some_iff.1 hu).1
      simp at this
      omega
    subst hk2
    rw [List.getElem?_append_right (by omega), hl, Nat.sub_self] at hu
    rw [List.getElem?_append_right (by omega), h2, Nat.sub_self] at hy
    simp at hu hy
    subst hu hy
    exact far ht
end
/-- l6Put on a matrix of the call's own. -/
theorem l6PutS_any (lo n c : Nat) (A : Option Addr) (B : Option Addr) (N d : Nat) (L : List (List Int)) (p : List Int) (w : World) (h : MatS lo w A n c L) (h0 : 0 < n) (hp : IO lo w (.slice B N d) p) (hlo : lo ≤ w.heap.size) (hn : n ≤ 1048576) (hN : N ≤ 1000) (P : ParP N p) (hL : ∀ q ∈ L, ParP N q) :
    Calls Tryz.prog 91 #[.slice A n c, .slice B N d] w fun e w' => ∃ A' n' c', e = .returned (.slice A' n' c') ∧ MatS lo w' A' n' c' (putC p L) ∧ 0 < n' ∧ ((Value.slice A' n' c').ownBlock = (Value.slice A n c).ownBlock ∨ ∃ b, (Value.slice A' n' c').ownBlock = some b ∧ w.heap.size ≤ b) ∧ Below w.heap.size w w' := by
  obtain ⟨g, rfl, hg, hnc⟩ := own_form (h.choose_spec.1) h0
  obtain ⟨ts, t1, t2, t3⟩ := h.raw
  refine (l6Put_gen g 0 n c B N d L p w (IO lo) (fun hb hi => hi.next hb) (fun hi => hi.rv) ts t1 t2 t3 hp hnc hn hN P hL).mono ?_
  rintro e w' ⟨b', o', n', c', rfl, hb, ⟨e1, rfl, rfl, rfl, rfl⟩ | ⟨rfl, vs, ho, hl, hI⟩⟩
  · rw [e1]
    exact ⟨_, _, _, rfl, h.next hb, h0, .inl rfl, hb⟩
  · obtain ⟨g', hA, hg', -⟩ := own_form ho (by omega)
    injection hA with hA
    injection hA with hA hO
    subst hA hO
    have hvl : vs.length = n + 1 := by have := ho.1; simpa using this
    have hsl : ∀ u ∈ vs, ∃ t : SlT, u = slV t := fun u hu => by
      obtain ⟨k, hk⟩ := List.getElem?_of_mem hu
      have hkl := (List.getElem?_eq_some_iff.1 hk).1
      obtain ⟨A, c, e⟩ := own_slice (hI k u _ hk (List.getElem?_eq_getElem (by omega))).1
      exact ⟨(A, _, c), e⟩
    obtain ⟨us, rfl⟩ : ∃ us : List SlT, vs = us.map slV := by
      clear hI ho hl hvl
      induction vs with
      | nil => exact ⟨[], rfl⟩
      | cons v vs ih =>
        obtain ⟨t, rfl⟩ := hsl v List.mem_cons_self
        obtain ⟨us, rfl⟩ := ih fun u hu => hsl u (List.mem_cons_of_mem _ hu)
        exact ⟨t :: us, rfl⟩
    refine ⟨_, _, _, rfl, ⟨us, own_mono ho hlo, by rw [← hl]; exact hvl, fun k t xs ht hx => hI k _ xs (by rw [List.getElem?_map, ht]; rfl) hx⟩, by omega, .inr ⟨b', rfl, hg'⟩, hb⟩
/-- l6Put on a list that is read. -/
theorem l6PutR_any (b o n c : Nat) (B : Option Addr) (N d : Nat) (L : List (List Int)) (p : List Int) (w : World) (h : RdL (RV RI) w (some ⟨b, o, none⟩) n L) (hp : RdL RI w B N p) (hc : n ≤ c) (hn : n ≤ 1048576) (hN : N ≤ 1000) (P : ParP N p) (hL : ∀ q ∈ L, ParP N q) :
    Calls Tryz.prog 91 #[.slice (some ⟨b, o, none⟩) n c, .slice B N d] w fun e w' => ∃ b' o' n' c', e = .returned (.slice (some ⟨b', o', none⟩) n' c') ∧ n' ≤ c' ∧ RdL (RV RI) w' (some ⟨b', o', none⟩) n' (putC p L) ∧ Below w.heap.size w w' := by
  obtain ⟨ts, t1, t2⟩ := h.raw
  refine (l6Put_gen b o n c B N d L p w (RV RI) (fun {w w' v x} hb hi => stab_RV stab_RI _ _ _ _ hb.block hi) (fun hi => hi) ts t1 h.1 (fun k t xs ht hx => ⟨_, _, _, rfl, t2 k t xs ht hx⟩) ⟨_, _, _, rfl, hp⟩ hc hn hN P hL).mono ?_
  rintro e w' ⟨b', o', n', c', rfl, hb, ⟨e1, rfl, rfl, rfl, rfl⟩ | ⟨rfl, vs, ho, hl, hI⟩⟩
  · rw [e1]
    exact ⟨_, _, _, _, rfl, hc, h.next stab_RVI hb, hb⟩
  · obtain ⟨g', hA, hg', hcc⟩ := own_form ho (by omega)
    have hvl : vs.length = n + 1 := by have := ho.1; simpa using this
    refine ⟨_, _, _, _, rfl, hcc, ?_, hb⟩
    have hr : RdL (fun _ v x => v = x) w' (some ⟨b', o', none⟩) (n + 1) vs := rd_of_own (f := id) (by rw [List.map_id]; exact ho) fun x _ => rfl
    refine ⟨by rw [← hl]; exact hvl, hr.2.1, fun k xs hk => ?_⟩
    have hkl := (List.getElem?_eq_some_iff.1 hk).1
    obtain ⟨b2, o2, v, e, hc2, rfl⟩ := hr.2.2 k _ (List.getElem?_eq_getElem (by omega))
    exact ⟨b2, o2, _, e, hc2, hI k _ xs (List.getElem?_eq_getElem (by omega)) hk⟩
def PrS (n : Nat) (ops : List OpM) (x y : Nat) (P : List (List Int)) : Prop := (∀ p ∈ P, congB n ops p = true) ∧ SrtC P ∧ (∀ x' y', y' < x' → x' < n → (x' < x ∨ (x' = x ∧ y' < y)) → ∃ p ∈ P, IsPr n ops y' x' p) ∧ P.length ≤ 8 * x + y
theorem PrS.start (n : Nat) (ops : List OpM) : PrS n ops 0 0 [] := ⟨fun p h => (by cases h), List.Pairwise.nil, fun x' y' _ _ h => (by omega), Nat.zero_le _⟩
theorem PrS.add {n : Nat} {ops : List OpM} {x y : Nat} {P : List (List Int)} {p : List Int} (h : PrS n ops x y P) (hp : IsPr n ops x y p) : PrS n ops x (y + 1) (putC p P) := by
  obtain ⟨h1, h2, h3, h4⟩ := h
  obtain ⟨s1, s2, s3⟩ := putC_spec p h2
  refine ⟨fun q hq => ?_, s1, fun x' y' k1 k2 k3 => ?_, by rw [s3]; split <;> omega⟩
  · rcases (s2 q).1 hq with rfl | hq
    · exact hp.1
    · exact h1 q hq
  · by_cases e : x' = x ∧ y' = y
    · obtain ⟨rfl, rfl⟩ := e
      exact ⟨p, (s2 p).2 (.inl rfl), hp.swap⟩
    · obtain ⟨q, hq, hi⟩ := h3 x' y' k1 k2 (by omega)
      exact ⟨q, (s2 q).2 (.inr hq), hi⟩
theorem PrS.col {n : Nat} {ops : List OpM} {x y : Nat} {P : List (List Int)} (h : PrS n ops x y P) (hy : ¬ y < x) (hn : y ≤ 8) : PrS n ops (x + 1) 0 P := ⟨h.1, h.2.1, fun x' y' h1 h2 h3 => h.2.2.1 x' y' h1 h2 (by omega), by have := h.2.2.2; omega⟩
structure BsI (n : Nat) (ops : List OpM) (L xs : List (List Int)) : Prop where
  srt : SrtC L
  mem : ∀ p, p ∈ L ↔ p ∈ xs
  len : L.length = xs.length
  cong : ∀ p ∈ xs, congB n ops p = true
theorem BsI.add {n : Nat} {ops : List OpM} {L xs : List (List Int)} {p : List Int} (h : BsI n ops L xs) (hc : congB n ops p = true) (hp : p ∉ L) : BsI n ops (putC p L) (xs ++ [p]) := by
  obtain ⟨s1, s2, s3⟩ := putC_spec p h.srt
  refine ⟨s1, fun q => ?_, by rw [s3, if_neg hp, List.length_append, h.len]; rfl, fun q hq => ?_⟩
  · rw [s2, h.mem, List.mem_append, List.mem_singleton]
    exact ⟨fun h => h.symm, fun h => h.symm⟩
  · rcases List.mem_append.1 hq with hq | hq
    · exact h.cong q hq
    · rw [List.mem_singleton.1 hq]; exact hc
theorem one_matS {lo : Nat} {w1 w2 : World} {n c : Nat} {A : Option Addr} {xs : List Int} (h : IO lo w1 (.slice A n c) xs) (hz : lo ≤ w1.heap.size) (hw : w2 = w1.alloc (.cells #[.slice A n c] 27)) : MatS lo w2 (some ⟨w1.heap.size, 0, none⟩) 1 1 [xs] := by
  subst hw
  refine ⟨[(A, n, c)], own_mono (World.ownsRow_lit w1 #[.slice A n c] 1 (Nat.le_refl _) (by unfold maxLen; omega) rfl) hz, rfl, fun k t ys ht hy => ?_⟩
  match k, ht, hy with
  | 0, ht, hy =>
    injection ht with ht
    injection hy with hy
    subst ht hy
    exact h.next (below_box _ _)
  | k + 1, ht, hy => cases ht
theorem up_bd (n : Nat) (hn : n ≤ 8) : ∀ x ∈ upTo n, -9223372036854775808 ≤ x ∧ x ≤ 9223372036854775807 := fun v hv => by have := par_in (up_par n) v hv; omega
theorem l6Most_any (cs : List Value) (ops : List OpM) (n most : Nat) (w : World) (h : shAlgebra.rd w cs ((n : Int), ops)) (hx : AlgP ((n : Int), ops)) (hm0 : 0 < most) (hm : most ≤ 5000) :
    Calls Tryz.prog 64 #[.agg cs.toArray, .int .i64 (most : Int)] w fun e w' => ∃ A c L, e = .returned (.slice A L.length c) ∧ RdL (RV RI) w' A L.length L ∧ SrtC L ∧ (∀ p ∈ L, congB n ops p = true) ∧ (L.length ≤ most → ∀ p, congB n ops p = true → p ∈ L) ∧ Below w.heap.size w w' := by
  have hrd := h
  obtain ⟨B, m, d, rfl, -, -⟩ := rdAlgebra h
  have hops : ∀ o ∈ ops, OpP n o := hx.2.2.2
  have hn8 : n ≤ 8 := by have h1 : (n : Int) ≤ 8 := hx.2.1; omega
  have hn0 : 0 < n := by have h1 : (1 : Int) ≤ n := hx.1; omega
  obtain ⟨w0, hw0, T0, hsz0, BP⟩ := boxes1 w #[.int .i64 (n : Int), .slice B m d] 26
  have HW0 := Lib.hid hw0
  have HX := Lib.hid hx
  have HOPS := Lib.hid hops
  have HR0 := Lib.hid (shAlgebra.stab hrd T0.block)
  have hT1 : Below w0.heap.size w0 (w0.alloc (.cells #[] 27)) := below_box _ _
  have cP0 := BP.cell 0
  simp at cP0
  clear hw0 hrd h hx hops
  go_enter Tryz.func64, Tryz.ntmps64
  go_upto_region 1 with fail
  rw [← HW0.out]
  go_wp2_with fail
  go_loopw [5, 6] (fun v i wr => ∃ (x : Nat) (P : List (List Int)) (b o q c : Nat), x ≤ n ∧ i = .int .i64 x ∧ v = .slice (some ⟨b, o, none⟩) q c ∧ q ≤ c ∧ RdL (RV RI) wr (some ⟨b, o, none⟩) q P ∧ Hid (PrS n ops x 0 P) ∧ Below w0.heap.size w0 wr) (fun _ i _ => n - (intOf i).toNat)
  case atStart => exact ⟨0, [], _, _, 0, 0, Nat.zero_le _, rfl, rfl, Nat.le_refl _, RdL.nil _ _ _, PrS.start n ops, hT1⟩
  case round =>
    clear hT1 cP0
    obtain ⟨x, P, b, o, q, c, hk, rfl, rfl, hqc, hr, HP, hT⟩ := hrel
    have cP0 := (BP.next hT).cell 0
    simp at cP0
    by_cases hlt : x < n
    · have hx1 : (x : Int) < (n : Int) := by omega
      go_wp2_with fail
      go_loopw [5, 7] (fun v i wr => ∃ (y : Nat) (P : List (List Int)) (b o q c : Nat), y ≤ x ∧ i = .int .i64 y ∧ v = .slice (some ⟨b, o, none⟩) q c ∧ q ≤ c ∧ RdL (RV RI) wr (some ⟨b, o, none⟩) q P ∧ Hid (PrS n ops x y P) ∧ Below w0.heap.size w0 wr) (fun _ i _ => x - (intOf i).toNat)
      case atStart => exact ⟨0, P, b, o, q, c, Nat.zero_le _, rfl, rfl, hqc, hr, HP, hT⟩
      case round =>
        clear hr HP hT cP0 hqc
        obtain ⟨y, P, b, o, q, c, hy, rfl, rfl, hqc, hr, HP, hT⟩ := hrel
        have cP0 := (BP.next hT).cell 0
        have cP1 := (BP.next hT).cell 1
        simp at cP0 cP1
        by_cases hlt2 : y < x
        · have hy1 : (y : Int) < (x : Int) := by omega
          have HC := Lib.hid (l6Principal_any _ ops n x y wr (shAlgebra.stab HR0.out hT.block) HX.out (by omega) (by omega))
          have hql := hr.len
          have hPl := HP.out.2.2.2
          have hq64 : q ≤ 1000 := by omega
          clear hql hPl
          go_wp2_with fail
          refine HC.out.mono ?_
          rintro e w2 ⟨A2, c2, p, rfl, hrp, hpr, hb2⟩
          have T2 := below_next hT hb2 rfl
          have HP2 : Hid (PrS n ops x (y + 1) (putC p P)) := HP.out.add hpr
          have HPU := Lib.hid (l6PutR_any b o q c A2 n c2 P p w2 (hr.next stab_RVI hb2) hrp hqc (by omega) (by omega) (cong_par hpr.1) (fun q hq => cong_par (HP.out.1 q hq)))
          clear hr hrp hpr HC
          go_wp2_with fail
          refine HPU.out.mono ?_
          rintro e w3 ⟨b3, o3, q3, c3, rfl, hqc3, hr3, hb3⟩
          have T3 := below_next T2 hb3 rfl
          go_wp2_with fail
          go_roundw
          case rel => exact ⟨y + 1, _, b3, o3, q3, c3, by omega, by go_num, rfl, hqc3, hr3, HP2, T3⟩
          case measure => simp [intOf]; try omega
        · have hy1 : ¬ (y : Int) < (x : Int) := by omega
          have HP2 : Hid (PrS n ops (x + 1) 0 P) := HP.out.col hlt2 (by omega)
          go_wp2_with fail
          go_roundw
          case rel => exact ⟨x + 1, P, b, o, q, c, by omega, by go_num, rfl, hqc, hr, HP2, hT⟩
          case measure => simp [intOf]; try omega
    · obtain rfl : n = x := by omega
      have hx1 : ¬ (n : Int) < (n : Int) := by omega
      obtain ⟨wp, HWP⟩ : ∃ z, Hid (z = wr) := ⟨_, Lib.hid rfl⟩
      rw [← HWP.out] at hT hr
      rw [← HWP.out] at cP0 ⊢
      have hszp := hT.size
      have hql := hr.len
      have hPl := HP.out.2.2.2
      have hq64 : q ≤ 1000 := by omega
      clear HWP hql hPl
      go_wp2_with fail
      refine (l6Identity_any n wp (by omega)).mono ?_
      rintro e w1 ⟨A1, c1, rfl, ho1, hb1⟩
      obtain ⟨w2, HW2, hb2, B2, hz2⟩ := al w1 #[.slice A1 n c1] 27
      have hul : (upTo n).length = n := upTo_len n
      have hMo : MatS wp.heap.size w2 (some ⟨w1.heap.size, 0, none⟩) 1 1 [upTo n] := one_matS ⟨by rw [hul]; exact ho1, up_bd n hn8⟩ hb1.size HW2.out
      have T2 := below_next hb1 hb2 rfl
      have hc2 := (BP.next (below_next hT T2 rfl)).cell 0
      simp at hc2
      have hzz := T2.size
      clear cP0 B2
      go_upto_region 10 with fail
      rw [← HW2.out]
      go_wp2_with fail
      refine (l6Identity_any n w2 (by omega)).mono ?_
      rintro e w3 ⟨A3, c3, rfl, ho3, hb3⟩
      obtain ⟨w4, HW4, hb4, B4, hz4⟩ := al w3 #[.slice A3 n c3] 27
      have hMl : MatS wp.heap.size w4 (some ⟨w3.heap.size, 0, none⟩) 1 1 [upTo n] := one_matS ⟨by rw [hul]; exact own_mono ho3 hzz, up_bd n hn8⟩ (Nat.le_trans hzz hb3.size) HW4.out
      have T4 := below_next T2 (below_next hb3 hb4 rfl) rfl
      have hMo4 := (hMo.next hb3).next hb4
      have hdis : w1.heap.size ≠ w3.heap.size := by have := hb3.size; omega
      have HL0 : Hid (LsI n ops P 0 0 [upTo n]) := LsI.start P hn0 HOPS.out
      have HB0 : Hid (BsI n ops [upTo n] [upTo n]) := ⟨List.pairwise_singleton _ _, fun _ => Iff.rfl, rfl, HL0.out.cong⟩
      clear hc2 hMo ho1 ho3 hb1 hb2 hb3 hb4 T2 hul B4
      have hdis0 : ∀ bb, (Value.slice (some ⟨w1.heap.size, 0, none⟩) 1 1).ownBlock = some bb → (Value.slice (some ⟨w3.heap.size, 0, none⟩) 1 1).ownBlock ≠ some bb := fun bb h1 h2 => by
        simp [Value.ownBlock] at h1 h2
        omega
      clear hdis
      go_upto_region 11 with fail
      rw [← HW4.out]
      go_wp2_with fail
      go_loopw [8, 9, 10] (fun vo vl i wr => ∃ (k : Nat) (L xs : List (List Int)) (Ao : Option Addr) (co : Nat) (Al : Option Addr) (cl : Nat), i = .int .i64 k ∧ vo = .slice Ao L.length co ∧ vl = .slice Al xs.length cl ∧ MatS wp.heap.size wr Ao L.length co L ∧ MatS wp.heap.size wr Al xs.length cl xs ∧ (∀ bb, (Value.slice Ao L.length co).ownBlock = some bb → (Value.slice Al xs.length cl).ownBlock ≠ some bb) ∧ Hid (BsI n ops L xs) ∧ k ≤ xs.length ∧ 0 < L.length ∧ xs.length ≤ most + 1 ∧ Hid (xs.length ≤ most → LsI n ops P k 0 xs) ∧ Below wp.heap.size wp wr) (fun _ _ i _ => most + 2 - (intOf i).toNat)
      case atStart => exact ⟨0, [upTo n], [upTo n], _, _, _, _, rfl, rfl, rfl, hMo4, hMl, hdis0, HB0, Nat.zero_le _, by simp, by simp, fun _ => HL0.out, T4⟩
      case round =>
        clear hMo4 hMl hdis0 HB0 HL0 T4 hz2 hz4 hzz
        obtain ⟨k, L, xs, Ao, co, Al, cl, rfl, rfl, rfl, hMo, hMl, hdis, HB, hkx, hL0, hxm, HLS, hT7⟩ := hrel
        have HLN : Hid (L.length = xs.length) := HB.out.len
        have hfin : Hid (SrtC L ∧ (∀ p ∈ L, congB n ops p = true)) := ⟨HB.out.srt, fun p hp => HB.out.cong p ((HB.out.mem p).1 hp)⟩
        by_cases hlt3 : k < xs.length
        · have hk1 : (k : Int) < (xs.length : Int) := by omega
          by_cases hLm : L.length ≤ most
          · have hLm1 : (L.length : Int) ≤ (most : Int) := by omega
            have HLS1 := Lib.hid (HLS.out (by rw [← HLN.out]; exact hLm))
            go_wp2_with fail
            go_loopw [8, 9, 11] (fun vo vl i wr => ∃ (j : Nat) (L xs : List (List Int)) (Ao : Option Addr) (co : Nat) (Al : Option Addr) (cl : Nat), i = .int .i64 j ∧ j ≤ P.length ∧ vo = .slice Ao L.length co ∧ vl = .slice Al xs.length cl ∧ MatS wp.heap.size wr Ao L.length co L ∧ MatS wp.heap.size wr Al xs.length cl xs ∧ (∀ bb, (Value.slice Ao L.length co).ownBlock = some bb → (Value.slice Al xs.length cl).ownBlock ≠ some bb) ∧ Hid (BsI n ops L xs) ∧ k < xs.length ∧ 0 < L.length ∧ xs.length ≤ most + 1 ∧ Hid (xs.length ≤ most → LsI n ops P k j xs) ∧ Below wp.heap.size wp wr) (fun _ _ i _ => P.length - (intOf i).toNat)
            case atStart => exact ⟨0, L, xs, Ao, co, Al, cl, rfl, Nat.zero_le _, rfl, rfl, hMo, hMl, hdis, HB, hlt3, hL0, hxm, fun _ => HLS1.out, hT7⟩
            case round =>
              clear hMo hMl hdis HB hkx hL0 hxm HLS HLS1 hT7 HLN hfin hlt3 hk1 hLm hLm1
              obtain ⟨j, L, xs, Ao, co, Al, cl, rfl, hj, rfl, rfl, hMo, hMl, hdis, HB, hkx, hL0, hxm, HLS, hT7⟩ := hrel
              have HLN : Hid (L.length = xs.length) := HB.out.len
              have HNX : Hid (xs.length ≤ most → ¬ j < P.length → LsI n ops P (k + 1) 0 xs) := fun h1 h2 => (HLS.out h1).next h2
              have HPQ : Hid (P.length = q) := hr.len
              rw [HPQ.out] at hj
              by_cases hltj : j < q
              · have hj1 : (j : Int) < (q : Int) := by omega
                by_cases hLm : L.length ≤ most
                · have hLm1 : (L.length : Int) ≤ (most : Int) := by omega
                  have HLS1 := Lib.hid (HLS.out (by rw [← HLN.out]; exact hLm))
                  obtain ⟨bX, oX, v2, p, rfl, hc2, ⟨Ap, np, cp, rfl, hp⟩, -, hxp⟩ := hMl.rd.at hkx
                  obtain ⟨v1, r, hc1, ⟨Aq, nq, cq, rfl, hq⟩, -, hxq⟩ := (hr.next stab_RVI hT7).at' hltj
                  have hcq := HP.out.1 r (List.mem_of_getElem? hxq)
                  have hcp := HB.out.cong p (List.mem_of_getElem? hxp)
                  obtain rfl : n = nq := by rw [← hq.len]; exact (cong_par hcq).1.symm
                  obtain rfl : n = np := by rw [← hp.len]; exact (cong_par hcp).1.symm
                  have hcj := join_cong hn0 HOPS.out hcp hcq
                  have HJI : ∀ wz, Below wr.heap.size wr wz → Calls Tryz.prog 94 #[.slice Ap n cp, .slice Aq n cq] wz (OwI wz (joinP p r)) := fun wz hz => l6Join_any Ap Aq n cp cq p r wz (hp.next stab_RI hz) (hq.next stab_RI hz) (cong_par hcp) (cong_par hcq) hn0 (by omega)
                  obtain ⟨jq, HJ⟩ : ∃ z, Hid (joinP p r = z) := ⟨_, Lib.hid rfl⟩
                  rw [HJ.out] at hcj HJI
                  have HJI := Lib.hid HJI
                  have HJL := Lib.hid (cong_par hcj).1
                  have HXP := Lib.hid hxp
                  have HXQ := Lib.hid hxq
                  have HCJ := Lib.hid hcj
                  have hsz7 := hT7.size
                  have hk0 : (0 : Int) ≤ (k : Int) := by omega
                  have hk1 : (k : Int) < (xs.length : Int) := by omega
                  have hj0 : (0 : Int) ≤ (j : Int) := by omega
                  have Tk : Below wr.heap.size wr wr := Below.refl _ _
                  clear hcq hcp hcj hxp hxq hp hq
                  go_upto_region 17 with fail
                  go_region_held3 (fun w' => w'.cell? ⟨bX, oX + k, none⟩ = some (.slice Ap n cp) ∧ w'.cell? ⟨b, o + j, none⟩ = some (.slice Aq n cq)) (first | go_keep | exact ⟨keepc Tk hc2, keepc Tk hc1⟩) (first
                    | (go_at_call 94; (with_reducible refine (HJI.out _ ?_).mono ?_); (first | exact Tk | exact Below.drew Tk); rintro e wn ⟨A8, c8, rfl, hon, hbn⟩; replace Tk := below_next (by first | exact Tk | exact Below.drew Tk) hbn rfl))
                  all_goals
                    have hIO : IO wp.heap.size wn (.slice A8 n c8) jq := ⟨by
                      have h1 := own_mono (base' := wp.heap.size) hon (by exact hsz7)
                      rw [HJL.out] at h1 ⊢
                      exact h1, fun v hv => by have := par_in (cong_par HCJ.out) v hv; omega⟩
                    rw [HJL.out]
                    have T8 := below_next hT7 Tk rfl
                    have hMl8 := hMl.next Tk
                    have hMo8 := hMo.next Tk
                    have hjP : j < P.length := by rw [HPQ.out]; exact hltj
                    have hxm3 : xs.length ≤ most := by rw [← HLN.out]; exact hLm
                    have HPU := Lib.hid (l6PutS_any wp.heap.size L.length co Ao A8 n c8 L jq wn (hMo.next Tk) hL0 hIO T8.size (by omega) (by omega) (cong_par HCJ.out) (fun q hq => cong_par (HB.out.cong q ((HB.out.mem q).1 hq))))
                    obtain ⟨ps1, ps2, ps3⟩ := putC_spec jq HB.out.srt
                    have HPL := Lib.hid ps3
                    have hbll : ∀ bb, (Value.slice (some ⟨bX, oX, none⟩) xs.length cl).ownBlock = some bb → bb < wn.heap.size := fun bb hb => (hMl8.choose_spec.1.lt bb hb).2
                    have hoj := hon
                    clear hon hbn ps1 ps2 ps3 hMl hMo
                    go_wp2_with fail
                    refine HPU.out.mono ?_
                    rintro e w5 ⟨A5, n5, c5, rfl, hM5, hn5, hbl5, hb5⟩
                    have T5 := below_next T8 hb5 rfl
                    have hsz5 := T5.size
                    have HN5 : Hid ((putC jq L).length = n5) := hM5.choose_spec.2.1
                    have hne5 : ∀ bb, (Value.slice A5 n5 c5).ownBlock = some bb → (Value.slice (some ⟨bX, oX, none⟩) xs.length cl).ownBlock ≠ some bb := fun bb h1 h2 => by
                      rcases hbl5 with e | ⟨b', e, hge⟩
                      · rw [e] at h1
                        exact hdis bb h1 h2
                      · rw [e] at h1
                        injection h1 with h1
                        have := hbll bb h2
                        omega
                    by_cases hjm : jq ∈ L
                    · have hnl : ¬ (L.length : Int) < (n5 : Int) := by rw [← HN5.out, HPL.out, if_pos hjm]; omega
                      have HLX : Hid (xs.length ≤ most → LsI n ops P k (j + 1) xs) := fun _ => HLS1.out.had HXP.out HXQ.out (by rw [HJ.out]; exact (HB.out.mem jq).1 hjm)
                      have hMl5 := hMl8.next hb5
                      have hMo5 := hMo8.next hb5
                      clear hbl5 hM5 hne5 hMl8 hMo8 hjm hoj
                      go_wp2_with fail
                      go_roundw
                      case rel => exact ⟨j + 1, L, xs, Ao, co, _, cl, by go_num, by rw [HPQ.out]; omega, rfl, rfl, hMo5, hMl5, hdis, HB, hkx, hL0, hxm, HLX, T5⟩
                      case measure => simp [intOf]; try omega
                    · have hnl : (L.length : Int) < (n5 : Int) := by rw [← HN5.out, HPL.out, if_neg hjm]; omega
                      have HB2 : Hid (BsI n ops (putC jq L) (xs ++ [jq])) := HB.out.add HCJ.out hjm
                      have HLX : Hid (xs.length + 1 ≤ most → LsI n ops P k (j + 1) (xs ++ [jq])) := fun _ => by
                        have hh : jq ∉ xs := fun h => hjm ((HB.out.mem jq).2 h)
                        rw [← HJ.out] at hh ⊢
                        exact HLS1.out.add HXP.out HXQ.out hh (by rw [HJ.out]; exact HCJ.out)
                      obtain ⟨ts, o1, o2, o3⟩ := hMl8.next hb5
                      have hIO5 := hIO.next hb5
                      have hx9 : xs.length ≤ 5001 := by omega
                      have HLN2 : Hid (L.length = xs.length) := HLN
                      clear hbl5 hMl8 hMo8 hjm HLN hoj
                      go_wp2_with (at_builtin; refine app1at w5 rfl _ _ 33 27 rfl (.slice none 0 0) 24 Tryz.underlying33 info_ints rfl (by decide) wp.heap.size xs.length cl (some ⟨bX, oX, none⟩) (ts.map slV) rfl o1 (.slice A8 n c8) rfl rfl (by omega) hsz5 ?_; intro A6 c6 w6 hown6 hg6 hb6 hat6)
                      have hMl6 : MatS wp.heap.size w6 A6 (xs.length + 1) c6 (xs ++ [jq]) := MatS.snoc (t := (A8, n, c8)) o1 rfl o3 hIO5 hown6 hg6
                      have hMo6 := hM5.grown o1 hg6 hne5
                      have T6 := T5.trans hb6
                      have hdis6 : ∀ bb, (Value.slice A5 n5 c5).ownBlock = some bb → (Value.slice A6 (xs.length + 1) c6).ownBlock ≠ some bb := fun bb h1 h2 => by
                        rcases hat6 with e | e
                        · rw [e] at h2
                          exact hne5 bb h1 h2
                        · rw [e] at h2
                          injection h2 with h2
                          have := (hM5.choose_spec.1.lt bb h1).2
                          omega
                      have hal : Hid ((xs ++ [jq]).length = xs.length + 1) := by show _ = _; rw [List.length_append]; rfl
                      clear hat6 o1 o2 o3 hM5 hne5
                      go_roundw
                      case rel => exact ⟨j + 1, putC jq L, xs ++ [jq], A5, c5, A6, c6, by go_num, by rw [HPQ.out]; omega, by rw [HN5.out], by rw [hal.out], by rw [HN5.out]; exact hMo6, by rw [hal.out]; exact hMl6, by rw [HN5.out, hal.out]; exact hdis6, HB2, by rw [hal.out]; omega, by rw [HN5.out]; exact hn5, by rw [hal.out]; omega, by rw [hal.out]; exact HLX, T6⟩
                      case measure => simp [intOf]; try omega
                · have hLm1 : ¬ (L.length : Int) ≤ (most : Int) := by omega
                  have hxm2 : ¬ xs.length ≤ most := by rw [← HLN.out]; exact hLm
                  go_wp2_with fail
                  go_roundw
                  case rel => exact ⟨k + 1, L, xs, Ao, co, Al, cl, by go_num, rfl, rfl, hMo, hMl, hdis, HB, by omega, hL0, hxm, fun h => absurd h hxm2, hT7⟩
                  case measure => simp [intOf]; try omega
              · have hj1 : ¬ (j : Int) < (q : Int) := by omega
                have HLX : Hid (xs.length ≤ most → LsI n ops P (k + 1) 0 xs) := fun h1 => HNX.out h1 (by rw [HPQ.out]; exact hltj)
                go_wp2_with fail
                go_roundw
                case rel => exact ⟨k + 1, L, xs, Ao, co, Al, cl, by go_num, rfl, rfl, hMo, hMl, hdis, HB, by omega, hL0, hxm, HLX, hT7⟩
                case measure => simp [intOf]; try omega
          · have hLm1 : ¬ (L.length : Int) ≤ (most : Int) := by omega
            have hrd := hMo.rd
            go_wp2_with fail
            go_ret
            exact ⟨Ao, co, L, rfl, hrd, hfin.out.1, hfin.out.2, fun h => absurd h hLm, below_next T0 (below_next hT hT7 rfl) rfl⟩
        · have hk1 : ¬ (k : Int) < (xs.length : Int) := by omega
          have hrd := hMo.rd
          have HALL : Hid (L.length ≤ most → ∀ p, congB n ops p = true → p ∈ L) := fun h p hp => (HB.out.mem p).2 ((HLS.out (by rw [← HLN.out]; exact h) : LsI n ops P k 0 xs).all HP.out.1 (fun x y h1 h2 => HP.out.2.2.1 y x h1 h2 (by omega)) hlt3 hp)
          go_wp2_with fail
          go_ret
          exact ⟨Ao, co, L, rfl, hrd, hfin.out.1, hfin.out.2, HALL.out, below_next T0 (below_next hT hT7 rfl) rfl⟩
theorem few_len {n : Nat} {ops : List OpM} {L : List (List Int)} (hs : SrtC L) (hc : ∀ p ∈ L, congB n ops p = true) (ha : L.length ≤ 200 → ∀ p, congB n ops p = true → p ∈ L) : decide (L.length ≤ 200) = fewB n ops := by
  by_cases h : L.length ≤ 200
  · rw [decide_eq_true h, (con_yes (L := L) ⟨hs, fun p => ⟨hc p, ha h p⟩⟩ h).1]
  · rw [decide_eq_false h, (con_no hs.nodup hc (by omega)).1]
theorem l6Few_any (cs : List Value) (x : AlgebraM) (w : World) (h : shAlgebra.rd w cs x) : Calls Tryz.prog 33 #[.agg cs.toArray] w (Bl w (.bool (acB x))) := by
  have hrd := h
  obtain ⟨B, m, d, rfl, -, -⟩ := rdAlgebra h
  obtain ⟨w0, hw0, T0, hsz0, BP⟩ := boxes1 w #[.int .i64 x.1, .slice B m d] 26
  have HW0 := Lib.hid hw0
  have hr0 := stab_same hrd T0
  have cP0 := BP.cell 0
  have cP1 := BP.cell 1
  simp at cP0 cP1
  have HG := Lib.hid (l2Good_any [.int .i64 x.1, .slice B m d] x w0 hr0)
  obtain ⟨r, HR⟩ : ∃ r, Hid (algB x = r) := ⟨_, rfl⟩
  rw [HR.out] at HG
  clear hw0 hrd h
  go_enter Tryz.func33, Tryz.ntmps33
  go_upto_region 1 with fail
  rw [← HW0.out]
  rcases r with _ | _
  · have HF : Hid (acB x = false) := by show _ = _; unfold acB; rw [HR.out]; rfl
    go_wp2_with fail
    refine HG.out.mono ?_
    rintro e w1 ⟨rfl, hb1⟩
    have T1 := below_next T0 hb1 rfl
    go_wp2_with fail
    go_ret
    exact ⟨ret_bool HF.out.symm, T1⟩
  · have HF : Hid (acB x = fewB x.1.toNat x.2) := by show _ = _; unfold acB; rw [HR.out]; rfl
    have hx := alg_iff.1 HR.out
    obtain ⟨z, ops⟩ := x
    obtain ⟨n, rfl⟩ : ∃ n : Nat, z = (n : Int) := ⟨z.toNat, by have h1 : 1 ≤ z := hx.1; omega⟩
    have HX := Lib.hid hx
    go_wp2_with fail
    refine HG.out.mono ?_
    rintro e w1 ⟨rfl, hb1⟩
    have T1 := below_next T0 hb1 rfl
    have hr1 := stab_same hr0 hb1
    have HA := Lib.hid (l6Most_any [.int .i64 (n : Int), .slice B m d] ops n 200 w1 hr1 HX.out (by decide) (by decide))
    clear cP0 cP1
    have cP0 := (BP.next hb1).cell 0
    have cP1 := (BP.next hb1).cell 1
    simp at cP0 cP1
    go_wp2_with fail
    refine HA.out.mono ?_
    rintro e w2 ⟨A, c, L, rfl, hrL, hs, hc, ha, hb2⟩
    have T2 := below_next T1 hb2 rfl
    have HD := Lib.hid (few_len hs hc ha)
    have HI : Hid (decide ((L.length : Int) ≤ 200) = decide (L.length ≤ 200)) := by show _ = _; congr 1; simp only [eq_iff_iff]; omega
    clear hs hc ha hrL
    go_wp2_with fail
    go_ret
    exact ⟨ret_bool (by rw [HF.out]; exact (HD.out.symm.trans HI.out.symm).symm), T2⟩
theorem l6All_any (cs : List Value) (ops : List OpM) (n : Nat) (w : World) (h : shAlgebra.rd w cs ((n : Int), ops)) (hx : AlgP ((n : Int), ops)) (hf : fewB n ops = true) :
    Calls Tryz.prog 34 #[.agg cs.toArray] w fun e w' => ∃ A q c, e = .returned (.slice A q c) ∧ RdL (RV RI) w' A q (conL n ops) ∧ Below w.heap.size w w' := by
  have hrd := h
  obtain ⟨B, m, d, rfl, -, -⟩ := rdAlgebra h
  obtain ⟨w0, hw0, T0, hsz0, BP⟩ := boxes1 w #[.int .i64 (n : Int), .slice B m d] 26
  have HW0 := Lib.hid hw0
  have cP0 := BP.cell 0
  have cP1 := BP.cell 1
  simp at cP0 cP1
  have HA := Lib.hid (l6Most_any [.int .i64 (n : Int), .slice B m d] ops n 5000 w0 (shAlgebra.stab hrd T0.block) hx (by decide) (by decide))
  have HF := Lib.hid hf
  clear hw0 hrd h hx hf
  go_enter Tryz.func34, Tryz.ntmps34
  go_upto_region 1 with fail
  rw [← HW0.out]
  go_wp2_with fail
  refine HA.out.mono ?_
  rintro e w2 ⟨A, c, L, rfl, hrL, hs, hc, ha, hb2⟩
  have T2 := below_next T0 hb2 rfl
  have HL : Hid (conL n ops = L) := by
    obtain ⟨h1, h2⟩ := few_all HF.out
    have h3 := nodup_len hs.nodup fun p hp => (h1.2 p).2 (hc p hp)
    exact (con_yes (L := L) ⟨hs, fun p => ⟨hc p, ha (by omega) p⟩⟩ (by omega)).2
  have hr2 := hrL
  clear hs hc ha hrL
  go_wp2_with fail
  go_ret
  exact ⟨A, L.length, c, rfl, by rw [HL.out]; exact hr2, T2⟩
theorem specAC_any (cs : List Value) (x : AlgebraM) (w : World) (h : shAlgebra.rd w cs x) : Calls Tryz.prog 14 #[.agg cs.toArray] w (RdMB w (acRes x) (acB x)) := by
  have hrd := h
  obtain ⟨B, m, d, rfl, -, -⟩ := rdAlgebra h
  obtain ⟨w0, hw0, T0, hsz0, BP⟩ := boxes1 w #[.int .i64 x.1, .slice B m d] 26
  have HW0 := Lib.hid hw0
  have hr0 := stab_same hrd T0
  have cP0 := BP.cell 0
  have cP1 := BP.cell 1
  simp at cP0 cP1
  have HG := Lib.hid (l6Few_any [.int .i64 x.1, .slice B m d] x w0 hr0)
  obtain ⟨r, HR⟩ : ∃ r, Hid (acB x = r) := ⟨_, rfl⟩
  have HF : Hid (acRes x = if acB x then conL x.1.toNat x.2 else []) := rfl
  rw [HR.out] at HG HF ⊢
  clear hw0 hrd h
  go_enter Tryz.func14, Tryz.ntmps14
  go_upto_region 1 with fail
  rw [← HW0.out]
  go_wp2_with fail
  refine HG.out.mono ?_
  rintro e w1 ⟨rfl, hb1⟩
  have T1 := below_next T0 hb1 rfl
  have hr1 := stab_same hr0 hb1
  clear cP0 cP1 HG hr0
  have cP0 := (BP.next hb1).cell 0
  have cP1 := (BP.next hb1).cell 1
  simp at cP0 cP1
  rcases r with _ | _
  · go_wp2_with fail
    go_ret2
    exact ⟨_, 0, 0, rfl, by rw [HF.out]; exact RdL.nil _ _ _, below_next T1 (below_box _ _) rfl⟩
  · have h0 := HR.out
    unfold acB at h0
    rw [Bool.and_eq_true] at h0
    have hx := alg_iff.1 h0.1
    obtain ⟨z, ops⟩ := x
    obtain ⟨n, rfl⟩ : ∃ n : Nat, z = (n : Int) := ⟨z.toNat, by have h1 : 1 ≤ z := hx.1; omega⟩
    have HA := Lib.hid (l6All_any [.int .i64 (n : Int), .slice B m d] ops n w1 hr1 hx h0.2)
    clear h0 hx
    go_wp2_with fail
    refine HA.out.mono ?_
    rintro e w2 ⟨A, q, c, rfl, hrL, hb2⟩
    go_wp2_with fail
    go_ret2
    exact ⟨A, q, c, rfl, by rw [HF.out]; exact hrL, below_next T1 hb2 rfl⟩
theorem PO.alg {lo : Nat} {w : World} {v : Value} {a : Int} {xs : List OpM} {css : List (List Value)} {bls : List (List Nat)} (h : PO lo w v xs css bls) (ha : InR a) : shAlgebra.rd w [.int .i64 a, v] (a, xs) :=
  ⟨[.int .i64 a], [v], rfl, ⟨_, rfl, rfl, ha.1, ha.2⟩, (Sh.rows shOp 64).ord h.own⟩
theorem small_R {x : AlgebraM} (h : SmallP x) : InR x.1 := ⟨by have := h.1; omega, by have := h.2.1; omega⟩
theorem code_ren_len {x : AlgebraM} {s : List Int} (hx : SmallP x) (hs : PermL x.1.toNat s) : (codeL (ren x s).2).length = (codeL x.2).length :=
  code_len_eq (ren_small hs hx).2.2.2 hx.2.2.2 ren_type
theorem code_small {x : AlgebraM} (hx : SmallP x) : (codeL x.2).length ≤ 1048576 := by
  have := cnt_small hx
  have h3 : shAlgebra.cnt x = 0 + (x.2.length + cntS shOp.cnt x.2) := rfl
  rw [codeL_len]
  omega
theorem code_R {x : AlgebraM} (hx : SmallP x) : ∀ y ∈ codeL x.2, InR y := by
  have key : ∀ l : List OpM, (∀ o ∈ l, OpP x.1.toNat o) → ∀ y ∈ codeL l, InR y := by
    intro l
    induction l with
    | nil => intro _ y hy; simp [codeL] at hy
    | cons o l ih =>
      intro hl y hy
      rw [codeL, List.mem_append] at hy
      rcases hy with hy | hy
      · have := (hl o (by simp)).2.2.2 y hy
        have := hx.2.1
        exact ⟨by omega, by omega⟩
      · exact ih (fun o ho => hl o (by simp [ho])) y hy
  exact key x.2 hx.2.2.2
/-- append of one int to a row of the call's own: the same block, or a new one. -/
theorem app1x (w0 : World) {ops : Array Oper} {rest : List Oper} {o : Oper} {a : Act} {Q : Exit → Act → World → Prop} (hgd : o.guard = none) (s x : Operand)
    (ho : o.op = .call { callee := .builtin .append, args := #[s, x], argTypes := #[27, 27] })
    (n c : Nat) (A : Option Addr) (xs : List Value) (hs : a.eval s = .slice A n c) (hown : w0.ownsRow 0 3 1 (.slice A n c) n xs) (u : Int) (hx : a.eval x = .slice (some ⟨w0.heap.size, 0, none⟩) 1 1)
    (hn : n ≤ 1048576)
    (hK : ∀ A' c' w', w'.ownsRow 0 3 1 (.slice A' (n + 1) c') (n + 1) (xs ++ [.int .i64 u]) → w0.grownBy w' (Value.slice A n c).ownBlock → (∀ b ∈ obl (.slice A' (n + 1) c'), b ∈ obl (.slice A n c) ∨ w0.heap.size ≤ b) → wpList Tryz.prog ops Q rest (a.put o.dst (.slice A' (n + 1) c')) w') :
    wpList Tryz.prog ops Q (o :: rest) a (w0.alloc (.cells #[.int .i64 u] 3)) := by
  obtain ⟨i, hi, hz, hsize, hby⟩ := info_parts info_int
  have hcells : ∀ j y, [Value.int .i64 u][j]? = some y → (w0.alloc (.cells #[.int .i64 u] 3)).cell? ((⟨w0.heap.size, 0, none⟩ : Addr).add j) = some y := by
    intro j y hj
    match j, hj with
    | 0, hj => simp at hj; subst hj; simp [Addr.add]
  have hone : ∀ y ∈ [Value.int .i64 u], y.oneCell' = true := by
    intro y hy
    simp at hy
    subst hy
    rfl
  have lift : ∀ {w' : World} {row : Option Nat}, (w0.alloc (.cells #[.int .i64 u] 3)).grownBy w' row → (∀ k, row = some k → (Value.slice A n c).ownBlock = some k) → w0.grownBy w' (Value.slice A n c).ownBlock := by
    intro w' row hg hr
    exact ⟨hg.os, hg.tape, hg.output, Nat.le_trans (by simp) hg.size, fun k hk hne => (hg.block k (by simp; omega) (fun e => hne (hr k e.symm).symm)).trans (Below.heap_alloc w0 _ k hk)⟩
  by_cases hr : n + 1 ≤ c
  · obtain ⟨g, rfl⟩ : ∃ g, A = some ⟨g, 0, none⟩ := by
      rcases hown.2 with ⟨h0, -⟩ | ⟨g, cap, cur, hv, -⟩
      · injection h0 with _ _ h3
        omega
      · injection hv with hv
        exact ⟨g, hv⟩
    refine wpList_append_own_spare (w0.alloc (.cells #[.int .i64 u] 3)) hgd s x 27 ho 0 3 i 1 Tryz.underlying27 hi hsize g n c xs hs (hown.alloc _) ⟨w0.heap.size, 0, none⟩ 1 1 [.int .i64 u] hx rfl hcells hone hr ?_
    intro w' h2 h3
    exact hK _ _ _ h2 (lift h3 fun k e => e) (fun b hb => .inl hb)
  · refine wpList_append_grows (w0.alloc (.cells #[.int .i64 u] 3)) hgd s x 27 ho 3 i (.int .i64 0) 1 8 Tryz.underlying27 hi hz hsize hby rfl (by omega) A n c xs hs ?_ hown.1 ?_ ⟨w0.heap.size, 0, none⟩ 1 1 [.int .i64 u] hx rfl hcells hone (by omega) (by unfold maxLen; omega) (by omega) ?_
    · intro e
      subst e
      rcases hown.2 with ⟨h0, h1⟩ | ⟨g, cap, cur, hv, -⟩
      · injection h0 with _ _ h3
        exact ⟨h1, h3⟩
      · injection hv with hv
        cases hv
    · intro b e j y hy
      subst e
      obtain ⟨g, rfl⟩ : ∃ g, b = ⟨g, 0, none⟩ := by
        rcases hown.2 with ⟨h0, -⟩ | ⟨g, cap, cur, hv, -⟩
        · injection h0 with h0
          cases h0
        · injection hv with hv
          injection hv with hv
          exact ⟨g, hv⟩
      have hjl := (List.getElem?_eq_some_iff.1 hy).1
      have h1 := hown.1
      have := ((hown.alloc (.cells #[.int .i64 u] 3)).cellAt j (by omega)).trans hy
      have ea : (⟨g, 0, none⟩ : Addr).add j = ⟨g, j, none⟩ := by
        unfold Addr.add
        split
        · rename_i h0; subst h0; rfl
        · simp
      rw [ea]
      exact this
    · intro v' w' h2 h3
      obtain ⟨A', c', rfl⟩ := own_slice h2
      refine hK A' c' w' (own_mono h2 (Nat.zero_le _)) (lift h3 fun k e => by cases e) (fun b hb => .inr ?_)
      have := (h2.lt b (mem_obl.1 hb)).1
      simp at this
      omega
theorem own_prefix {w : World} {base n c : Nat} {A : Option Addr} {xs : List Int} {y : Int} {e : TypeId} (h : w.ownsRow base e 1 (.slice A (n + 1) c) (n + 1) (ints (xs ++ [y]))) (hn : xs.length = n) : w.ownsRow base e 1 (.slice A n c) n (ints xs) ∧ n + 1 ≤ c := by
  rcases h.2 with ⟨h0, -⟩ | ⟨g, cap, cur, hv, h1, h2, h3, h4, h5, h6⟩
  · injection h0 with _ h2 _
    omega
  · injection hv with hv1 hv2 hv3
    subst hv1
    subst hv3
    refine ⟨⟨by rw [ints_len]; omega, .inr ⟨g, c, cur, rfl, h1, h2, by omega, h4, h5, ?_⟩⟩, h3⟩
    have : cur.toList.take (n * 1) = (cur.toList.take ((n + 1) * 1)).take (n * 1) := by rw [List.take_take]; congr 1; omega
    rw [this, h6]
    simp [ints, hn]
/-- What eachOrder asks of the function that it calls: Q says what holds once d orders have been handed over; only the blocks of bl may change. -/
structure FoundOk (N : Nat) (n : Nat) (fid : Nat) (caps : Array Value) (Q : World → List (List Int) → List Nat → Prop) : Prop where
  enter : ∀ (args : Array Value) (w : World), (callFunc fid args).run Tryz.prog w = .ok (.enter fid args) w
  stab : ∀ {w w' : World} {d : List (List Int)} {bl : List Nat}, Q w d bl → w.heap.size ≤ w'.heap.size → (∀ b ∈ bl, w'.heap[b]? = w.heap[b]?) → Q w' d bl
  lt : ∀ {w : World} {d : List (List Int)} {bl : List Nat}, Q w d bl → ∀ b ∈ bl, b < w.heap.size
  call : ∀ (w : World) (d : List (List Int)) (bl : List Nat) (A : Option Addr) (c : Nat) (p : List Int), d.length < N → Q w d bl → RdL RI w A n p → PermL n p →
    Calls Tryz.prog fid (#[.slice A n c] ++ caps) w fun e w' => e = .returned (.tuple #[]) ∧ ∃ bl', Q w' (d ++ [p]) bl' ∧ ChgB bl w w' ∧ ∀ b ∈ bl', b ∈ bl ∨ w.heap.size ≤ b
structure NxS (n : Nat) (fid : Nat) (caps : Array Value) (g0 g1 g2 g3 : Nat) (w : World) (A : Option Addr) (c : Nat) (s : List Int) (bl : List Nat) : Prop where
  B0 : Blk w g0 27 #[.slice A s.length c]
  B1 : Blk w g1 3 #[.int .i64 (n : Int)]
  B2 : Blk w g2 81 #[.func (.func fid) #[] caps]
  B3 : Blk w g3 1 #[.func (.func 96) #[] #[.pointer (some ⟨g0, 0, none⟩), .pointer (some ⟨g1, 0, none⟩), .pointer (some ⟨g2, 0, none⟩), .pointer (some ⟨g3, 0, none⟩)]]
  own : w.ownsRow 0 3 1 (.slice A s.length c) s.length (ints s)
  dis : ∀ b ∈ obl (.slice A s.length c), b ∉ bl
  gs : g0 ∉ bl ∧ g1 ∉ bl ∧ g2 ∉ bl ∧ g3 ∉ bl
  g1v : g1 ∉ obl (.slice A s.length c)
theorem NxS.chg {n fid : Nat} {caps : Array Value} {g0 g1 g2 g3 c : Nat} {w w' : World} {A : Option Addr} {s : List Int} {bl bl' : List Nat} (h : NxS n fid caps g0 g1 g2 g3 w A c s bl) (hc : ChgB bl w w') (hb : ∀ b ∈ bl', b ∈ bl ∨ w.heap.size ≤ b) : NxS n fid caps g0 g1 g2 g3 w' A c s bl' := by
  have far : ∀ {g : Nat} {t : TypeId} {cs : Array Value}, Blk w g t cs → g ∉ bl → Blk w' g t cs := fun hB hg => (hc.block _ hB.lt hg).trans hB
  have fr : ∀ {g : Nat} {t : TypeId} {cs : Array Value}, Blk w g t cs → g ∉ bl → g ∉ bl' := fun hB hg hh => by
    rcases hb _ hh with h1 | h1
    · exact hg h1
    · have := hB.lt
      omega
  refine ⟨far h.B0 h.gs.1, far h.B1 h.gs.2.1, far h.B2 h.gs.2.2.1, far h.B3 h.gs.2.2.2, ?_, fun b hbm hh => ?_, ⟨fr h.B0 h.gs.1, fr h.B1 h.gs.2.1, fr h.B2 h.gs.2.2.1, fr h.B3 h.gs.2.2.2⟩, h.g1v⟩
  · exact row_chg h.own hc fun b hb' hh => h.dis b (mem_obl.2 hb') hh
  · rcases hb b hh with h1 | h1
    · exact h.dis b hbm h1
    · have := (h.own.lt b (mem_obl.1 hbm)).2
      omega
/-- What a call of the inner function leaves. -/
def NxE (n fid : Nat) (caps : Array Value) (Q : World → List (List Int) → List Nat → Prop) (g0 g1 g2 g3 : Nat) (w : World) (A : Option Addr) (c : Nat) (s : List Int) (bl : List Nat) (d : List (List Int)) (e : Ending) (w' : World) : Prop :=
  e = .returned (.tuple #[]) ∧ ∃ A' c' bl', NxS n fid caps g0 g1 g2 g3 w' A' c' s bl' ∧ Q w' d bl' ∧ ChgB (bl ++ g0 :: obl (.slice A s.length c)) w w' ∧ (∀ b ∈ bl', b ∈ bl ∨ w.heap.size ≤ b) ∧ (∀ b ∈ obl (.slice A' s.length c'), b ∈ obl (.slice A s.length c) ∨ w.heap.size ≤ b)
theorem ChgB.trans2 {bl bl1 : List Nat} {g0 : Nat} {l l1 : List Nat} {w w1 w2 : World} (h : ChgB (bl ++ g0 :: l) w w1) (k : ChgB (bl1 ++ g0 :: l1) w1 w2) (hb1 : ∀ b ∈ bl1, b ∈ bl ∨ w.heap.size ≤ b) (hl : ∀ b ∈ l1, b ∈ l ∨ w.heap.size ≤ b) : ChgB (bl ++ g0 :: l) w w2 :=
  ⟨k.os.trans h.os, k.tape.trans h.tape, k.output.trans h.output, Nat.le_trans h.size k.size, fun b hb hn => (k.block b (Nat.lt_of_lt_of_le hb h.size) fun hh => hn (by
    rw [List.mem_append, List.mem_cons] at hh ⊢
    rcases hh with h1 | h1 | h1
    · rcases hb1 b h1 with h2 | h2
      · exact .inl h2
      · omega
    · exact .inr (.inl h1)
    · rcases hl b h1 with h2 | h2
      · exact .inr (.inr h2)
      · omega)).trans (h.block b hb hn)⟩
theorem Blk.c0 {w : World} {g : Nat} {t : TypeId} {v : Value} (h : Blk w g t #[v]) : w.cell? ⟨g, 0, none⟩ = some v := by have := h.cell 0; simpa using this
theorem obl_len {A : Option Addr} {n m c d : Nat} : obl (.slice A n c) = obl (.slice A m d) := by rcases A with _ | p <;> rfl
theorem NxS.push {n fid : Nat} {caps : Array Value} {g0 g1 g2 g3 c : Nat} {w w2 : World} {A : Option Addr} {s : List Int} {bl : List Nat} (h : NxS n fid caps g0 g1 g2 g3 w A c s bl) (hbl : ∀ b ∈ bl, b < w.heap.size) {A2 : Option Addr} {c2 : Nat} {u : Int} (ho : w2.ownsRow 0 3 1 (.slice A2 (s.length + 1) c2) (s.length + 1) (ints s ++ [.int .i64 u]))
    (hg : w.grownBy w2 (Value.slice A s.length c).ownBlock) (hf : ∀ b ∈ obl (.slice A2 (s.length + 1) c2), b ∈ obl (.slice A s.length c) ∨ w.heap.size ≤ b) :
    NxS n fid caps g0 g1 g2 g3 (w2.setCell ⟨g0, 0, none⟩ (.slice A2 (s ++ [u]).length c2)) A2 c2 (s ++ [u]) bl ∧ (∀ b ∈ bl, (w2.setCell ⟨g0, 0, none⟩ (.slice A2 (s ++ [u]).length c2)).heap[b]? = w.heap[b]?) ∧ ChgB (g0 :: obl (.slice A s.length c)) w (w2.setCell ⟨g0, 0, none⟩ (.slice A2 (s ++ [u]).length c2)) := by
  have hl : (s ++ [u]).length = s.length + 1 := by simp
  have far : ∀ {g : Nat} {t : TypeId} {cs : Array Value}, Blk w g t cs → g ∉ obl (.slice A s.length c) → Blk w2 g t cs := fun hB hn => hB.grown hg fun e => hn (mem_obl.2 e.symm)
  have n0 : g0 ∉ obl (.slice A s.length c) := fun hh => own_off h.own h.B0 (by decide) (mem_obl.1 hh)
  have n2 : g2 ∉ obl (.slice A s.length c) := fun hh => own_off h.own h.B2 (by decide) (mem_obl.1 hh)
  have n3 : g3 ∉ obl (.slice A s.length c) := fun hh => own_off h.own h.B3 (by decide) (mem_obl.1 hh)
  have e1 : g1 ≠ g0 := h.B1.ne_ h.B0 (by decide)
  have e2 : g2 ≠ g0 := h.B2.ne_ h.B0 (by decide)
  have e3 : g3 ≠ g0 := h.B3.ne_ h.B0 (by decide)
  have B0' := (far h.B0 n0).set_ 0 (.slice A2 (s ++ [u]).length c2)
  have hno : g0 ∉ obl (.slice A2 (s.length + 1) c2) := fun hh => own_off ho (far h.B0 n0) (by decide) (mem_obl.1 hh)
  refine ⟨⟨by simpa using B0', (far h.B1 h.g1v).far (p := ⟨g0, 0, none⟩) e1 _, (far h.B2 n2).far (p := ⟨g0, 0, none⟩) e2 _, (far h.B3 n3).far (p := ⟨g0, 0, none⟩) e3 _, ?_, ?_, h.gs, ?_⟩, ?_, ?_⟩
  · rw [hl, ints_snoc]
    exact own_set ho (p := ⟨g0, 0, none⟩) (fun hh => hno (mem_obl.2 hh)) _
  · intro b hb hh
    rw [hl] at hb
    rcases hf b hb with h1 | h1
    · exact h.dis b h1 hh
    · have := hbl b hh
      omega
  · intro hh
    rw [hl] at hh
    rcases hf g1 hh with h1 | h1
    · exact h.g1v h1
    · have := h.B1.lt
      omega
  · intro b hb
    rw [Below.heap_setCell w2 ⟨g0, 0, none⟩ _ b (fun e => h.gs.1 (by rw [← show b = g0 from e]; exact hb))]
    exact hg.block b (hbl b hb) fun e => h.dis b (mem_obl.2 e.symm) hb
  · exact ⟨hg.os, hg.tape, hg.output, by simpa using hg.size, fun b hb hn => by
      rw [List.mem_cons, not_or] at hn
      rw [Below.heap_setCell w2 ⟨g0, 0, none⟩ _ b hn.1]
      exact hg.block b hb fun e => hn.2 (mem_obl.2 e.symm)⟩
theorem NxS.pop {n fid : Nat} {caps : Array Value} {g0 g1 g2 g3 c : Nat} {w : World} {A : Option Addr} {s : List Int} {u : Int} {bl : List Nat} (h : NxS n fid caps g0 g1 g2 g3 w A c (s ++ [u]) bl) :
    NxS n fid caps g0 g1 g2 g3 (w.setCell ⟨g0, 0, none⟩ (.slice A s.length c)) A c s bl ∧ (∀ b ∈ bl, (w.setCell ⟨g0, 0, none⟩ (.slice A s.length c)).heap[b]? = w.heap[b]?) ∧ s.length + 1 ≤ c := by
  have hl : (s ++ [u]).length = s.length + 1 := by simp
  have ho := h.own
  rw [hl] at ho
  obtain ⟨ho2, hc⟩ := own_prefix ho rfl
  have e1 : g1 ≠ g0 := h.B1.ne_ h.B0 (by decide)
  have e2 : g2 ≠ g0 := h.B2.ne_ h.B0 (by decide)
  have e3 : g3 ≠ g0 := h.B3.ne_ h.B0 (by decide)
  have hob : obl (.slice A s.length c) = obl (.slice A (s ++ [u]).length c) := by rcases A with _ | p <;> rfl
  have hno : g0 ∉ obl (.slice A s.length c) := fun hh => own_off ho2 h.B0 (by decide) (mem_obl.1 hh)
  refine ⟨⟨by simpa using h.B0.set_ 0 (.slice A s.length c), h.B1.far (p := ⟨g0, 0, none⟩) e1 _, h.B2.far (p := ⟨g0, 0, none⟩) e2 _, h.B3.far (p := ⟨g0, 0, none⟩) e3 _, own_set ho2 (p := ⟨g0, 0, none⟩) (fun hh => hno (mem_obl.2 hh)) _, ?_, h.gs, ?_⟩, ?_, hc⟩
  · rw [hob]
    exact h.dis
  · rw [hob]
    exact h.g1v
  · intro b hb
    exact Below.heap_setCell w ⟨g0, 0, none⟩ _ b (fun e => h.gs.1 (by rw [← show b = g0 from e]; exact hb))
theorem ordsTo_mono {n r : Nat} {s : List Int} {k : Nat} : ∀ {m : Nat}, k ≤ m → (ordsTo n r s k).length ≤ (ordsTo n r s m).length
  | 0, h => by
    obtain rfl : k = 0 := by omega
    exact Nat.le_refl _
  | m + 1, h => by
    rcases Nat.lt_or_ge k (m + 1) with h1 | h1
    · rw [ordsTo_succ n r s m, List.length_append]
      have := ordsTo_mono (n := n) (r := r) (s := s) (k := k) (m := m) (by omega)
      omega
    · obtain rfl : k = m + 1 := by omega
      exact Nat.le_refl _
theorem next_any {N n fid : Nat} {caps : Array Value} {Q : World → List (List Int) → List Nat → Prop} (hF : FoundOk N n fid caps Q) (hn5 : n ≤ 5) (g0 g1 g2 g3 : Nat) :
    ∀ (r : Nat) (A : Option Addr) (c : Nat) (s : List Int) (bl : List Nat) (d : List (List Int)) (w : World), NxS n fid caps g0 g1 g2 g3 w A c s bl → Q w d bl → s.length + r = n → (∀ v ∈ s, 0 ≤ v ∧ v ≤ (n : Int) - 1) → s.Nodup → d.length + (ords n r s).length ≤ N →
      Calls Tryz.prog 96 #[.pointer (some ⟨g0, 0, none⟩), .pointer (some ⟨g1, 0, none⟩), .pointer (some ⟨g2, 0, none⟩), .pointer (some ⟨g3, 0, none⟩)] w (NxE n fid caps Q g0 g1 g2 g3 w A c s bl (d ++ ords n r s))
  | 0, A, c, s, bl, d, w, hS, hQ, hl, hb, hnd, hN => by
    have hls : s.length = n := by omega
    have HS := Lib.hid hS
    have c0 := hS.B0.c0
    have c1 := hS.B1.c0
    have c2 := hS.B2.c0
    have HO : Hid (ords n 0 s = [s]) := rfl
    have hR : RdL RI w A n s := by
      have := rd_of_own (R := RI) hS.own (RI_ints fun v hv => by have := hb v hv; omega)
      rw [hls] at this
      exact this
    have HC := Lib.hid (hF.call w d bl A c s (by simp [ords] at hN; omega) hQ hR ⟨hls, hb, hnd⟩)
    rw [hls] at c0
    have hen := hF.enter
    clear hS hQ hb hnd hl
    go_enter Tryz.func96, Tryz.ntmps96
    go_wp2_with fail
    refine HC.out.mono ?_
    rintro e w' ⟨rfl, bl', hQ', hcg, hfr⟩
    have HS' := Lib.hid (HS.out.chg hcg hfr)
    have HQ' := Lib.hid hQ'
    clear hQ'
    go_wp2_with fail
    (try simp only [Exit.inBlock, Exit.then])
    refine bodyPost_ret (results_none rfl _ _ _) rfl ?_
    exact ⟨rfl, A, c, bl', HS'.out, by rw [HO.out]; exact HQ'.out, hcg.mono fun b hb => List.mem_append_left _ hb, hfr, fun b hb => .inl hb⟩
  | r + 1, A, c, s, bl, d, w, hS, hQ, hl, hb, hnd, hN => by
    have HNN := Lib.hid hN
    clear hN
    have ih := next_any hF hn5 g0 g1 g2 g3 r
    have HB := Lib.hid hb
    have HND := Lib.hid hnd
    have hsl : s.length ≤ 5 := by omega
    have hbe : ((s.length : Int) == (n : Int)) = false := by rw [beq_eq_false_iff_ne]; omega
    have c0 := hS.B0.c0
    have c1 := hS.B1.c0
    have HO : Hid (ordsTo n r s n = ords n (r + 1) s) := rfl
    have HL := Lib.hid hl
    clear hb hnd
    go_enter Tryz.func96, Tryz.ntmps96
    go_wp2_with fail
    clear c0 c1
    go_loopw [4] (fun i wr => ∃ (k : Nat) (A' : Option Addr) (c' : Nat) (bl' : List Nat), k ≤ n ∧ i = .int .i64 k ∧ NxS n fid caps g0 g1 g2 g3 wr A' c' s bl' ∧ Q wr (d ++ ordsTo n r s k) bl' ∧ ChgB (bl ++ g0 :: obl (.slice A s.length c)) w wr ∧ (∀ b ∈ bl', b ∈ bl ∨ w.heap.size ≤ b) ∧ (∀ b ∈ obl (.slice A' s.length c'), b ∈ obl (.slice A s.length c) ∨ w.heap.size ≤ b)) (fun i _ => n - (intOf i).toNat)
    case atStart => exact ⟨0, A, c, bl, Nat.zero_le _, rfl, hS, by rw [show ordsTo n r s 0 = [] from rfl, List.append_nil]; exact hQ, ChgB.refl _ _, fun b hb => .inl hb, fun b hb => .inl hb⟩
    case round =>
      clear hS hQ
      obtain ⟨k, A', c', bl', hk, rfl, hS, hQ, hC, hfb, hfv⟩ := hrel
      have c0 := hS.B0.c0
      have c1 := hS.B1.c0
      by_cases hlt : k < n
      · have hk0 : (0 : Int) ≤ (k : Int) := by omega
        have hk1 : (k : Int) < (n : Int) := by omega
        have hR : RdL RI wr A' s.length s := rd_of_own (R := RI) hS.own (RI_ints fun v hv => by have := HB.out v hv; omega)
        have HS := Lib.hid hS
        have HQ := Lib.hid hQ
        have HREL := Lib.hid (And.intro hC (And.intro hfb hfv))
        rcases hh : hasI (k : Int) s with _ | _
        · have HH : Hid ((!hasI (k : Int) s) = true) := by show _ = _; rw [hh]; rfl
          have HSU : Hid (ordsTo n r s (k + 1) = ordsTo n r s k ++ ords n r (s ++ [(k : Int)])) := by show _ = _; rw [ordsTo_succ, hh]; simp
          have HNM : Hid (¬ (k : Int) ∈ s) := fun hm => by rw [hasI_m.2 hm] at hh; cases hh
          have hown := hS.own
          have HBL : Hid (∀ b ∈ bl', b < wr.heap.size) := hF.lt hQ
          have e30 : g3 ≠ g0 := hS.B3.ne_ hS.B0 (by decide)
          have c3 := hS.B3.c0
          clear hh hS hQ hC hfb hfv
          go_wp2_with (first
            | (go_at_call 97; refine (hasNot_any _ _ _ _ _ _ hR).mono ?_; rintro e w' ⟨rfl, rfl⟩; rw [HH.out])
            | (at_builtin; refine app1x wr rfl _ _ rfl s.length c' A' (ints s) rfl hown (k : Int) rfl (by omega) ?_; intro A2 c2 w2 hown2 hg2 hf2; have HP := Lib.hid (HS.out.push HBL.out hown2 hg2 hf2); have cB0 := (HS.out.B0.grown hg2 (fun e => own_off hown HS.out.B0 (by decide) e.symm)).c0; have fB0 := (HS.out.B0.grown hg2 (fun e => own_off hown HS.out.B0 (by decide) e.symm)).frozen 0; have cB3 := (HS.out.B3.grown hg2 (fun e => own_off hown HS.out.B3 (by decide) e.symm)).c0))
          have hlen1 : (s ++ [(k : Int)]).length = s.length + 1 := by simp
          obtain ⟨hN3, hsame3, hC3⟩ := HP.out
          rw [hlen1] at hN3 hsame3 hC3
          obtain ⟨w3, hw3⟩ : ∃ w3, w3 = w2.setCell ⟨g0, 0, none⟩ (.slice A2 (s.length + 1) c2) := ⟨_, rfl⟩
          rw [← hw3] at hN3 hsame3 hC3 ⊢
          clear hw3 HP cB0 fB0 cB3
          have hQ3 := hF.stab HQ.out hC3.size hsame3
          refine (ih A2 c2 (s ++ [(k : Int)]) bl' _ w3 hN3 hQ3 (by rw [hlen1]; have := HL.out; omega) (fun v hv => by
            rw [List.mem_append] at hv
            rcases hv with hv | hv
            · exact HB.out v hv
            · rw [List.mem_singleton] at hv
              omega) (by
            rw [List.nodup_append]
            refine ⟨HND.out, by simp, fun a ha b hb e => ?_⟩
            rw [List.mem_singleton] at hb
            subst hb
            subst e
            exact HNM.out ha) (by
            have h1 := HNN.out
            have h2 : (ordsTo n r s (k + 1)).length ≤ (ordsTo n r s n).length := ordsTo_mono (by omega)
            rw [HO.out] at h2
            rw [HSU.out, List.length_append] at h2
            rw [List.length_append]
            omega)).mono ?_
          rintro e w5 ⟨rfl, A5, c5, bl5, hN5, hQ5, hC5, hfb5, hfv5⟩
          rw [List.append_assoc, ← HSU.out] at hQ5
          obtain ⟨hN6, hsame6, hc56⟩ := hN5.pop
          have cB0 := hN5.B0.c0
          have fB0 := hN5.B0.frozen 0
          rw [hlen1] at cB0
          have hQ6 := hF.stab hQ5 (by simp) hsame6
          have hfvv : ∀ b ∈ obl (.slice A2 (s ++ [(k : Int)]).length c2), b ∈ obl (.slice A' s.length c') ∨ wr.heap.size ≤ b := fun b hb => hf2 b (by rw [obl_len (m := (s ++ [(k : Int)]).length) (d := c2)]; exact hb)
          have hCr : ChgB (bl' ++ g0 :: obl (.slice A' s.length c')) wr (w5.setCell ⟨g0, 0, none⟩ (.slice A5 s.length c5)) :=
            ((hC3.mono fun b hb => List.mem_append_right _ hb).trans2 hC5 (fun b hb => .inl hb) hfvv).trans (ChgB.set (p := ⟨g0, 0, none⟩) (List.mem_append_right _ (List.mem_cons_self ..)) _)
          have hs1 := HREL.out.1.size
          have hs3 := hC3.size
          have HFIN := Lib.hid (And.intro hN6 (And.intro hQ6 (And.intro (HREL.out.1.trans2 hCr HREL.out.2.1 HREL.out.2.2) (And.intro (show ∀ b ∈ bl5, b ∈ bl ∨ w.heap.size ≤ b from fun b hb => by
            rcases hfb5 b hb with h1 | h1
            · exact HREL.out.2.1 b h1
            · exact .inr (by omega)) (show ∀ b ∈ obl (.slice A5 s.length c5), b ∈ obl (.slice A s.length c) ∨ w.heap.size ≤ b from fun b hb => by
            rw [obl_len (m := (s ++ [(k : Int)]).length) (d := c5)] at hb
            rcases hfv5 b hb with h1 | h1
            · rcases hfvv b h1 with h2 | h2
              · exact HREL.out.2.2 b h2
              · exact .inr (by omega)
            · exact .inr (by omega))))))
          clear hN3 hsame3 hC3 hN5 hQ5 hC5 hfb5 hfv5 hN6 hsame6 hQ6 hQ3 hCr hfvv hown2 hg2 hf2 hown hR HREL c0 c1 c3
          go_wp2_with fail
          go_roundw
          case rel => exact ⟨k + 1, A5, c5, bl5, by omega, by go_num, HFIN.out⟩
          case measure => simp [intOf]; omega
        · have HH : Hid ((!hasI (k : Int) s) = false) := by show _ = _; rw [hh]; rfl
          have HSU : Hid (ordsTo n r s (k + 1) = ordsTo n r s k) := by show _ = _; rw [ordsTo_succ, hh]; simp
          clear hh hS hQ hC hfb hfv
          go_wp2_with (go_at_call 97; refine (hasNot_any _ _ _ _ _ _ hR).mono ?_; rintro e w' ⟨rfl, rfl⟩; rw [HH.out])
          go_roundw
          case rel => exact ⟨k + 1, A', c', bl', by omega, by go_num, HS.out, by rw [HSU.out]; exact HQ.out, HREL.out⟩
          case measure => simp [intOf]; omega
      · obtain rfl : k = n := by omega
        have hlt' : ¬ (k : Int) < (k : Int) := by omega
        have HFIN : Hid (NxE k fid caps Q g0 g1 g2 g3 w A c s bl (d ++ ords k (r + 1) s) (.returned (.tuple #[])) wr) := ⟨rfl, A', c', bl', hS, by rw [← HO.out]; exact hQ, hC, hfb, hfv⟩
        clear hS hQ hC hfb hfv
        go_wp2_with fail
        go_end0
        exact HFIN.out
theorem eachOrder_any {N n fid : Nat} {caps : Array Value} {Q : World → List (List Int) → List Nat → Prop} (hF : FoundOk N n fid caps Q) (hn5 : n ≤ 5) (hN : (ords n n []).length ≤ N) (w : World) (bl : List Nat) (hQ : Q w [] bl) :
    Calls Tryz.prog 68 #[.int .i64 (n : Int), .func (.func fid) #[] caps] w (fun e w' => e = .returned (.tuple #[]) ∧ ∃ bl', Q w' (ords n n []) bl' ∧ ChgB bl w w' ∧ ∀ b ∈ bl', b ∈ bl ∨ w.heap.size ≤ b) := by
  have hlt := hF.lt hQ
  obtain ⟨w5, hw5⟩ : ∃ w5, w5 = ((((w.alloc (.cells #[.int .i64 (n : Int)] 3)).alloc (.cells #[.func (.func fid) #[] caps] 81)).alloc (.cells #[] 3)).alloc (.cells #[.slice (some ⟨w.heap.size + 1 + 1, 0, none⟩) 0 0] 27)).alloc (.cells #[.func (.func 96) #[] #[.pointer (some ⟨w.heap.size + 1 + 1 + 1, 0, none⟩), .pointer (some ⟨w.heap.size, 0, none⟩), .pointer (some ⟨w.heap.size + 1, 0, none⟩), .pointer (some ⟨w.heap.size + 1 + 1 + 1 + 1, 0, none⟩)]] 1) := ⟨_, rfl⟩
  have T5 : Below w.heap.size w w5 := by
    rw [hw5]
    exact (below_box4 w _ _ _ _).alloc (by simp; omega) _
  have hz5 : w5.heap.size = w.heap.size + 5 := by rw [hw5]; simp
  have B1 : Blk w5 w.heap.size 3 #[.int .i64 (n : Int)] := by
    rw [hw5]
    exact ((((Blk.new w 3 #[.int .i64 (n : Int)]).alloc _).alloc _).alloc _).alloc _
  have B2 : Blk w5 (w.heap.size + 1) 81 #[.func (.func fid) #[] caps] := by
    rw [hw5]
    have := (((Blk.new (w.alloc (.cells #[.int .i64 (n : Int)] 3)) 81 #[.func (.func fid) #[] caps]).alloc (.cells #[] 3)).alloc (.cells #[.slice (some ⟨w.heap.size + 1 + 1, 0, none⟩) 0 0] 27)).alloc (.cells #[.func (.func 96) #[] #[.pointer (some ⟨w.heap.size + 1 + 1 + 1, 0, none⟩), .pointer (some ⟨w.heap.size, 0, none⟩), .pointer (some ⟨w.heap.size + 1, 0, none⟩), .pointer (some ⟨w.heap.size + 1 + 1 + 1 + 1, 0, none⟩)]] 1)
    simpa using this
  have B0 : Blk w5 (w.heap.size + 1 + 1 + 1) 27 #[.slice (some ⟨w.heap.size + 1 + 1, 0, none⟩) 0 0] := by
    rw [hw5]
    have := (Blk.new (((w.alloc (.cells #[.int .i64 (n : Int)] 3)).alloc (.cells #[.func (.func fid) #[] caps] 81)).alloc (.cells #[] 3)) 27 #[.slice (some ⟨w.heap.size + 1 + 1, 0, none⟩) 0 0]).alloc (.cells #[.func (.func 96) #[] #[.pointer (some ⟨w.heap.size + 1 + 1 + 1, 0, none⟩), .pointer (some ⟨w.heap.size, 0, none⟩), .pointer (some ⟨w.heap.size + 1, 0, none⟩), .pointer (some ⟨w.heap.size + 1 + 1 + 1 + 1, 0, none⟩)]] 1)
    simpa using this
  have B3 : Blk w5 (w.heap.size + 1 + 1 + 1 + 1) 1 #[.func (.func 96) #[] #[.pointer (some ⟨w.heap.size + 1 + 1 + 1, 0, none⟩), .pointer (some ⟨w.heap.size, 0, none⟩), .pointer (some ⟨w.heap.size + 1, 0, none⟩), .pointer (some ⟨w.heap.size + 1 + 1 + 1 + 1, 0, none⟩)]] := by
    rw [hw5]
    have := Blk.new ((((w.alloc (.cells #[.int .i64 (n : Int)] 3)).alloc (.cells #[.func (.func fid) #[] caps] 81)).alloc (.cells #[] 3)).alloc (.cells #[.slice (some ⟨w.heap.size + 1 + 1, 0, none⟩) 0 0] 27)) 1 #[.func (.func 96) #[] #[.pointer (some ⟨w.heap.size + 1 + 1 + 1, 0, none⟩), .pointer (some ⟨w.heap.size, 0, none⟩), .pointer (some ⟨w.heap.size + 1, 0, none⟩), .pointer (some ⟨w.heap.size + 1 + 1 + 1 + 1, 0, none⟩)]]
    simpa using this
  have own : w5.ownsRow 0 3 1 (.slice (some ⟨w.heap.size + 1 + 1, 0, none⟩) 0 0) 0 (ints []) := by
    rw [hw5]
    have := ((World.ownsRow_lit (e := 3) (size := 1) ((w.alloc (.cells #[.int .i64 (n : Int)] 3)).alloc (.cells #[.func (.func fid) #[] caps] 81)) #[] 0 (Nat.zero_le _) (Nat.zero_le _) rfl).alloc (.cells #[.slice (some ⟨w.heap.size + 1 + 1, 0, none⟩) 0 0] 27)).alloc (.cells #[.func (.func 96) #[] #[.pointer (some ⟨w.heap.size + 1 + 1 + 1, 0, none⟩), .pointer (some ⟨w.heap.size, 0, none⟩), .pointer (some ⟨w.heap.size + 1, 0, none⟩), .pointer (some ⟨w.heap.size + 1 + 1 + 1 + 1, 0, none⟩)]] 1)
    rw [World.size_alloc, World.size_alloc] at this
    exact this
  have hX : NxS n fid caps (w.heap.size + 1 + 1 + 1) w.heap.size (w.heap.size + 1) (w.heap.size + 1 + 1 + 1 + 1) w5 (some ⟨w.heap.size + 1 + 1, 0, none⟩) 0 [] bl :=
    ⟨B0, B1, B2, B3, own, fun b hb hh => by
      have h1 := hlt b hh
      have h2 : b ∈ [w.heap.size + 1 + 1] := hb
      simp at h2
      omega, ⟨fun hh => by have := hlt _ hh; omega, fun hh => by have := hlt _ hh; omega, fun hh => by have := hlt _ hh; omega, fun hh => by have := hlt _ hh; omega⟩, fun hh => by
      have h2 : w.heap.size ∈ [w.heap.size + 1 + 1] := hh
      simp at h2
      omega⟩
  have hQ5 : Q w5 [] bl := hF.stab hQ T5.size fun b hb => T5.block b (hlt b hb)
  have HC := Lib.hid (next_any hF hn5 _ _ _ _ n _ 0 [] bl [] w5 hX hQ5 (by simp) (fun v hv => by cases hv) List.nodup_nil (by simpa using hN))
  have HT := Lib.hid (And.intro T5 (And.intro hz5 hlt))
  have c3 := B3.c0
  have HW5 := Lib.hid hw5
  rw [hw5] at c3
  have BZ := Blk.new ((((w.alloc (.cells #[.int .i64 (n : Int)] 3)).alloc (.cells #[.func (.func fid) #[] caps] 81)).alloc (.cells #[] 3)).alloc (.cells #[.slice (some ⟨w.heap.size + 1 + 1, 0, none⟩) 0 0] 27)) 1 #[.nilFunc]
  have cZ := BZ.c0
  have fZ := BZ.frozen 0
  simp at cZ fZ
  have hst : ∀ (a : Addr) (fn : Fn) (fs cs : Array Value) (w : World) (m : Mode), Sem.run Tryz.prog (store a (.func fn fs cs) m) w = stored Tryz.prog w a (.func fn fs cs) m := fun a fn fs cs w m => run_store Tryz.prog w a _ m rfl
  clear hw5 T5 hz5 B0 B1 B2 B3 own hX hQ5 hQ hlt
  go_enter Tryz.func68, Tryz.ntmps68
  go_wp2_with fail
  rw [← HW5.out]
  refine HC.out.mono ?_
  rintro e w' ⟨rfl, A', c', bl', -, hQ', hC', hfb, -⟩
  obtain ⟨T5, hz5, hlt⟩ := HT.out
  have HQ' := Lib.hid hQ'
  have hfin : ChgB bl w w' := by
    refine ⟨hC'.os.trans T5.os, hC'.tape.trans T5.tape, hC'.output.trans T5.output, by have := hC'.size; omega, fun b hb hn => (hC'.block b (by omega) fun hh => ?_).trans (T5.block b hb)⟩
    rw [List.mem_append, List.mem_cons] at hh
    rcases hh with h1 | h1 | h1
    · exact hn h1
    · omega
    · have h2 : b ∈ [w.heap.size + 1 + 1] := h1
      simp at h2
      omega
  have HFIN := Lib.hid hfin
  have HFB : Hid (∀ b ∈ bl', b ∈ bl ∨ w.heap.size ≤ b) := fun b hb => by
    rcases hfb b hb with h1 | h1
    · exact .inl h1
    · exact .inr (by omega)
  clear hQ' hC' hfb hfin T5 hz5 hlt
  go_wp2_with fail
  go_end0
  exact ⟨rfl, bl', by have := HQ'.out; simpa using this, HFIN.out, HFB.out⟩
/-- Where the boxes of canonical stand, and what the algebra's cells are. -/
structure CanC where
  x : AlgebraM
  n : Nat
  CL : Nat
  B : Option Addr
  m : Nat
  d : Nat
  wL : World
  ga : Nat
  gf : Nat
  gc : Nat
  gb : Nat
def CanC.rest (C : CanC) (w : World) : Option (List Int) → List Nat → Prop
  | none, bl => Blk w C.gf 27 #[.slice none 0 0] ∧ Blk w C.gc 27 #[.slice none 0 0] ∧ Blk w C.gb 26 #[.int .i64 0, .slice none 0 0] ∧ bl = [C.ga, C.gf, C.gc, C.gb]
  | some b, bl => ∃ (Af : Option Addr) (cf : Nat) (Ac : Option Addr) (cc : Nat) (vb : Value) (css : List (List Value)) (bls : List (List Nat)), Blk w C.gf 27 #[.slice Af C.n cf] ∧ Blk w C.gc 27 #[.slice Ac C.CL cc] ∧ Blk w C.gb 26 #[.int .i64 (C.n : Int), vb] ∧
      w.ownsRow C.wL.heap.size 3 1 (.slice Af C.n cf) C.n (ints b) ∧ w.ownsRow C.wL.heap.size 3 1 (.slice Ac C.CL cc) C.CL (ints (codeL (ren C.x b).2)) ∧ PO C.wL.heap.size w vb (ren C.x b).2 css bls ∧
      bl = [C.ga, C.gf, C.gc, C.gb] ++ (obl (.slice Af C.n cf) ++ (obl (.slice Ac C.CL cc) ++ (obl vb ++ bls.flatten)))
/-- The state once d orders have been handed over. -/
def CanC.Q (C : CanC) (w : World) (d : List (List Int)) (bl : List Nat) : Prop :=
  ∃ rl, bl = List.range C.wL.heap.size ++ rl ∧ (∀ b < C.wL.heap.size, w.heap[b]? = C.wL.heap[b]?) ∧ C.wL.heap.size ≤ w.heap.size ∧ Blk w C.ga 26 #[.int .i64 (C.n : Int), .slice C.B C.m C.d] ∧ (∀ p ∈ d, PermL C.n p) ∧ C.rest w (bestOf C.x d) rl
structure CanC.Ok (C : CanC) : Prop where
  rd : shAlgebra.rd C.wL [.int .i64 (C.n : Int), .slice C.B C.m C.d] C.x
  small : SmallP C.x
  hn : C.x.1 = (C.n : Int)
  hCL : (codeL C.x.2).length = C.CL
  dist : C.gf ≠ C.gc ∧ C.gf ≠ C.gb ∧ C.gc ≠ C.gb ∧ C.ga ≠ C.gb ∧ C.ga ≠ C.gf ∧ C.ga ≠ C.gc
  ge : C.wL.heap.size ≤ C.ga ∧ C.wL.heap.size ≤ C.gf ∧ C.wL.heap.size ≤ C.gc ∧ C.wL.heap.size ≤ C.gb
theorem CanC.rest_stab {C : CanC} {w w' : World} {o : Option (List Int)} {bl : List Nat} (h : C.rest w o bl) (hz : w.heap.size ≤ w'.heap.size) (hs : ∀ b ∈ bl, w'.heap[b]? = w.heap[b]?) : C.rest w' o bl := by
  rcases o with _ | b
  · obtain ⟨h1, h2, h3, rfl⟩ := h
    exact ⟨(hs _ (by simp)).trans h1, (hs _ (by simp)).trans h2, (hs _ (by simp)).trans h3, rfl⟩
  · obtain ⟨Af, cf, Ac, cc, vb, css, bls, h1, h2, h3, h4, h5, h6, rfl⟩ := h
    refine ⟨Af, cf, Ac, cc, vb, css, bls, (hs _ (by simp)).trans h1, (hs _ (by simp)).trans h2, (hs _ (by simp)).trans h3, own_same h4 fun b hb => hs b ?_, own_same h5 fun b hb => hs b ?_, h6.same hz fun b hb => hs b ?_, rfl⟩
    · exact List.mem_append_right _ (List.mem_append_left _ (mem_obl.2 hb))
    · exact List.mem_append_right _ (List.mem_append_right _ (List.mem_append_left _ (mem_obl.2 hb)))
    · exact List.mem_append_right _ (List.mem_append_right _ (List.mem_append_right _ hb))
theorem CanC.Q_lt {C : CanC} {w : World} {d : List (List Int)} {bl : List Nat} (h : C.Q w d bl) : ∀ b ∈ bl, b < w.heap.size := by
  obtain ⟨rl, rfl, -, hz, hA, -, hr⟩ := h
  intro b hb
  rcases List.mem_append.1 hb with hb | hb
  · have := List.mem_range.1 hb
    omega
  · generalize bestOf C.x d = o at hr
    rcases o with _ | p
    · obtain ⟨h1, h2, h3, rfl⟩ := hr
      simp at hb
      rcases hb with rfl | rfl | rfl | rfl
      · exact hA.lt
      · exact h1.lt
      · exact h2.lt
      · exact h3.lt
    · obtain ⟨Af, cf, Ac, cc, vb, css, bls, h1, h2, h3, h4, h5, h6, rfl⟩ := hr
      rcases List.mem_append.1 hb with hb | hb
      · simp at hb
        rcases hb with rfl | rfl | rfl | rfl
        · exact hA.lt
        · exact h1.lt
        · exact h2.lt
        · exact h3.lt
      · rcases List.mem_append.1 hb with hb | hb
        · exact (h4.lt b (mem_obl.1 hb)).2
        · rcases List.mem_append.1 hb with hb | hb
          · exact (h5.lt b (mem_obl.1 hb)).2
          · exact (h6.2.2.2 b hb).2
theorem CanC.Q_sub {C : CanC} {w : World} {d : List (List Int)} {bl : List Nat} (h : C.Q w d bl) : ∀ g ∈ [C.ga, C.gf, C.gc, C.gb], g ∈ bl := by
  obtain ⟨rl, rfl, -, -, -, -, hr⟩ := h
  intro g hg
  refine List.mem_append_right _ ?_
  generalize bestOf C.x d = o at hr
  rcases o with _ | p
  · obtain ⟨-, -, -, rfl⟩ := hr
    exact hg
  · obtain ⟨Af, cf, Ac, cc, vb, css, bls, h1, h2, h3, h4, h5, h6, rfl⟩ := hr
    exact List.mem_append_left _ hg
theorem CanC.Q_stab {C : CanC} {w w' : World} {d : List (List Int)} {bl : List Nat} (h : C.Q w d bl) (hz : w.heap.size ≤ w'.heap.size) (hs : ∀ b ∈ bl, w'.heap[b]? = w.heap[b]?) : C.Q w' d bl := by
  have hsub := C.Q_sub h
  obtain ⟨rl, rfl, h1, h2, hA, hp, hr⟩ := h
  exact ⟨rl, rfl, fun b hb => (hs b (List.mem_append_left _ (List.mem_range.2 hb))).trans (h1 b hb), Nat.le_trans h2 hz, (hs _ (hsub C.ga (by simp))).trans hA, hp, CanC.rest_stab hr hz fun b hb => hs b (List.mem_append_right _ hb)⟩
theorem CanC.Q_rd {C : CanC} {w : World} {d : List (List Int)} {bl : List Nat} (hC : C.Ok) (h : C.Q w d bl) : shAlgebra.rd w [.int .i64 (C.n : Int), .slice C.B C.m C.d] C.x := by
  obtain ⟨rl, rfl, h1, -, -, -, -⟩ := h
  exact shAlgebra.stab hC.rd h1
/-- A new best one, laid behind w. -/
theorem CanC.rest_new {C : CanC} (hC : C.Ok) {w w' : World} {p : List Int} {Af : Option Addr} {cf : Nat} {Ac : Option Addr} {cc : Nat} {vb : Value} {css : List (List Value)} {bls : List (List Nat)} {d : List (List Int)} {bl : List Nat}
    (h : C.Q w d bl) (hp : PermL C.n p) (hz : w.heap.size ≤ w'.heap.size) (hfar : ∀ b < w.heap.size, b ∉ [C.gf, C.gc, C.gb] → w'.heap[b]? = w.heap[b]?)
    (h1 : Blk w' C.gf 27 #[.slice Af C.n cf]) (h2 : Blk w' C.gc 27 #[.slice Ac C.CL cc]) (h3 : Blk w' C.gb 26 #[.int .i64 (C.n : Int), vb])
    (h4 : w'.ownsRow w.heap.size 3 1 (.slice Af C.n cf) C.n (ints p)) (h5 : w'.ownsRow w.heap.size 3 1 (.slice Ac C.CL cc) C.CL (ints (codeL (ren C.x p).2))) (h6 : PO w.heap.size w' vb (ren C.x p).2 css bls)
    (hbest : bestOf C.x (d ++ [p]) = some p) : ∃ bl', C.Q w' (d ++ [p]) bl' ∧ ∀ b ∈ bl', b ∈ bl ∨ w.heap.size ≤ b := by
  have hsub := C.Q_sub h
  obtain ⟨rl, rfl, g1, g2, hA, gp, hr⟩ := h
  have hga : C.ga ∉ [C.gf, C.gc, C.gb] := by
    have := hC.dist
    simp
    exact ⟨this.2.2.2.2.1, this.2.2.2.2.2, this.2.2.2.1⟩
  refine ⟨List.range C.wL.heap.size ++ ([C.ga, C.gf, C.gc, C.gb] ++ (obl (.slice Af C.n cf) ++ (obl (.slice Ac C.CL cc) ++ (obl vb ++ bls.flatten)))), ⟨_, rfl, fun b hb => ?_, Nat.le_trans g2 hz, (hfar _ hA.lt hga).trans hA, fun q hq => ?_, ?_⟩, fun b hb => ?_⟩
  · refine (hfar b (by omega) fun hh => ?_).trans (g1 b hb)
    have := hC.ge
    simp at hh
    omega
  · rw [List.mem_append] at hq
    rcases hq with hq | hq
    · exact gp q hq
    · rw [List.mem_singleton] at hq
      rw [hq]
      exact hp
  · rw [hbest]
    exact ⟨Af, cf, Ac, cc, vb, css, bls, h1, h2, h3, own_mono h4 g2, own_mono h5 g2, h6.mono g2, rfl⟩
  · rcases List.mem_append.1 hb with hb | hb
    · exact .inl (List.mem_append_left _ hb)
    · rcases List.mem_append.1 hb with hb | hb
      · exact .inl (hsub b hb)
      · rcases List.mem_append.1 hb with hb | hb
        · exact .inr (h4.lt b (mem_obl.1 hb)).1
        · rcases List.mem_append.1 hb with hb | hb
          · exact .inr (h5.lt b (mem_obl.1 hb)).1
          · exact .inr (h6.2.2.2 b hb).1
theorem CanC.rest_keep {C : CanC} {w w' : World} {p : List Int} {d : List (List Int)} {bl : List Nat} (h : C.Q w d bl) (hp : PermL C.n p) (hb : Below w.heap.size w w') (hbest : bestOf C.x (d ++ [p]) = bestOf C.x d) : C.Q w' (d ++ [p]) bl := by
  have hlt := C.Q_lt h
  obtain ⟨rl, e, g1, g2, hA, gp, hr⟩ := C.Q_stab h hb.size fun b hb' => hb.block b (hlt b hb')
  refine ⟨rl, e, g1, g2, hA, fun q hq => ?_, by rw [hbest]; exact hr⟩
  rw [List.mem_append] at hq
  rcases hq with hq | hq
  · exact gp q hq
  · rw [List.mem_singleton] at hq
    rw [hq]
    exact hp
theorem own_some {w : World} {base n c : Nat} {e : TypeId} {A : Option Addr} {xs : List Value} (h : w.ownsRow base e 1 (.slice A n c) n xs) (hn : n ≠ 0) : ∃ g, A = some ⟨g, 0, none⟩ ∧ base ≤ g ∧ g < w.heap.size := by
  rcases h.2 with ⟨-, h0⟩ | ⟨g, cap, cur, hv, -⟩
  · exact absurd h0 hn
  · injection hv with hv
    subst hv
    exact ⟨g, rfl, h.lt g rfl⟩
theorem CanC.finish {C : CanC} (hC : C.Ok) {w w4 : World} {d : List (List Int)} {bl : List Nat} {p : List Int} (hQ : C.Q w d bl) (hp : PermL C.n p) (T4 : Below w.heap.size w w4) {a b u1 u2 : Value} {Af : Option Addr} {cf : Nat} {Ac : Option Addr} {cc : Nat} {v : Value} {css : List (List Value)} {bls : List (List Nat)}
    (BU : Blk w4 C.gf 27 #[a]) (BC : Blk w4 C.gc 27 #[b]) (BB : Blk w4 C.gb 26 #[u1, u2])
    (h4 : w4.ownsRow w.heap.size 3 1 (.slice Af C.n cf) C.n (ints p)) (h5 : w4.ownsRow w.heap.size 3 1 (.slice Ac C.CL cc) C.CL (ints (codeL (ren C.x p).2))) (h6 : PO w.heap.size w4 v (ren C.x p).2 css bls)
    (hbest : bestOf C.x (d ++ [p]) = some p) :
    ∃ bl', C.Q ((((w4.setCell ⟨C.gb, 0, none⟩ (.int .i64 (C.n : Int))).setCell ⟨C.gb, 1, none⟩ v).setCell ⟨C.gc, 0, none⟩ (.slice Ac C.CL cc)).setCell ⟨C.gf, 0, none⟩ (.slice Af C.n cf)) (d ++ [p]) bl' ∧
      ChgB [C.gf, C.gc, C.gb] w ((((w4.setCell ⟨C.gb, 0, none⟩ (.int .i64 (C.n : Int))).setCell ⟨C.gb, 1, none⟩ v).setCell ⟨C.gc, 0, none⟩ (.slice Ac C.CL cc)).setCell ⟨C.gf, 0, none⟩ (.slice Af C.n cf)) ∧ ∀ b ∈ bl', b ∈ bl ∨ w.heap.size ≤ b := by
  have hlt := CanC.Q_lt hQ
  have hsub := CanC.Q_sub hQ
  have l1 := hlt C.gf (hsub C.gf (by simp))
  have l2 := hlt C.gc (hsub C.gc (by simp))
  have l3 := hlt C.gb (hsub C.gb (by simp))
  obtain ⟨d1, d2, d3, -⟩ := hC.dist
  have fo : ∀ {e : TypeId} {size nn : Nat} {vv : Value} {xs : List Value} {ww : World} {g k : Nat} {u : Value}, ww.ownsRow w.heap.size e size vv nn xs → g < w.heap.size → (ww.setCell ⟨g, k, none⟩ u).ownsRow w.heap.size e size vv nn xs := fun {_ _ _ _ _ _ g _ _} h hg => own_set h (fun hh => by have h9 : w.heap.size ≤ g := (h.lt _ hh).1; omega) _
  have B3 : Blk ((w4.setCell ⟨C.gb, 0, none⟩ (.int .i64 (C.n : Int))).setCell ⟨C.gb, 1, none⟩ v) C.gb 26 #[.int .i64 (C.n : Int), v] := by simpa using (BB.set_ 0 (.int .i64 (C.n : Int))).set_ 1 v
  have C3 := (BC.far (p := ⟨C.gb, 0, none⟩) d3 (.int .i64 (C.n : Int))).far (p := ⟨C.gb, 1, none⟩) d3 v
  have F3 := (BU.far (p := ⟨C.gb, 0, none⟩) d2 (.int .i64 (C.n : Int))).far (p := ⟨C.gb, 1, none⟩) d2 v
  have B4 := B3.far (p := ⟨C.gc, 0, none⟩) d3.symm (.slice Ac C.CL cc)
  have C4 := C3.set_ 0 (.slice Ac C.CL cc)
  have F4 := F3.far (p := ⟨C.gc, 0, none⟩) d1 (.slice Ac C.CL cc)
  have B5 := B4.far (p := ⟨C.gf, 0, none⟩) d2.symm (.slice Af C.n cf)
  have C5 := C4.far (p := ⟨C.gf, 0, none⟩) d1.symm (.slice Af C.n cf)
  have F5 := F4.set_ 0 (.slice Af C.n cf)
  have hfar : ∀ b < w.heap.size, b ∉ [C.gf, C.gc, C.gb] → ((((w4.setCell ⟨C.gb, 0, none⟩ (.int .i64 (C.n : Int))).setCell ⟨C.gb, 1, none⟩ v).setCell ⟨C.gc, 0, none⟩ (.slice Ac C.CL cc)).setCell ⟨C.gf, 0, none⟩ (.slice Af C.n cf)).heap[b]? = w.heap[b]? := by
    intro b hb hn
    simp at hn
    rw [Below.heap_setCell _ ⟨C.gf, 0, none⟩ _ b hn.1, Below.heap_setCell _ ⟨C.gc, 0, none⟩ _ b hn.2.1, Below.heap_setCell _ ⟨C.gb, 1, none⟩ _ b hn.2.2, Below.heap_setCell _ ⟨C.gb, 0, none⟩ _ b hn.2.2]
    exact T4.block b hb
  obtain ⟨bl', h7, h8⟩ := CanC.rest_new hC hQ hp (w' := (((w4.setCell ⟨C.gb, 0, none⟩ (.int .i64 (C.n : Int))).setCell ⟨C.gb, 1, none⟩ v).setCell ⟨C.gc, 0, none⟩ (.slice Ac C.CL cc)).setCell ⟨C.gf, 0, none⟩ (.slice Af C.n cf)) (by simpa using T4.size) hfar (by simpa using F5) (by simpa using C5) B5
    (fo (fo (fo (fo h4 l3) l3) l2) l1) (fo (fo (fo (fo h5 l3) l3) l2) l1) ((((h6.far (p := ⟨C.gb, 0, none⟩) l3 _).far (p := ⟨C.gb, 1, none⟩) l3 _).far (p := ⟨C.gc, 0, none⟩) l2 _).far (p := ⟨C.gf, 0, none⟩) l1 _) hbest
  exact ⟨bl', h7, ⟨T4.os, T4.tape, T4.output, by simpa using T4.size, hfar⟩, h8⟩
theorem nil_eq0 (w : World) : Sem.run Tryz.prog (binOp BinOp.eql 27 (.slice none 0 0) (.slice none 0 0)) w = .ok (.bool true) w := rfl
theorem nil_eq1 (p : Addr) (n c : Nat) (w : World) : Sem.run Tryz.prog (binOp BinOp.eql 27 (.slice (some p) n c) (.slice none 0 0)) w = .ok (.bool false) w := rfl
theorem canClo_any (C : CanC) (hC : C.Ok) (w : World) (d : List (List Int)) (bl : List Nat) (N : Option Addr) (c : Nat) (p : List Int) (hQ : C.Q w d bl) (hR : RdL RI w N C.n p) (hp : PermL C.n p) :
    Calls Tryz.prog 69 #[.slice N C.n c, .pointer (some ⟨C.ga, 0, none⟩), .pointer (some ⟨C.gf, 0, none⟩), .pointer (some ⟨C.gc, 0, none⟩), .pointer (some ⟨C.gb, 0, none⟩)] w
      fun e w' => e = .returned (.tuple #[]) ∧ ∃ bl', C.Q w' (d ++ [p]) bl' ∧ ChgB [C.gf, C.gc, C.gb] w w' ∧ ∀ b ∈ bl', b ∈ bl ∨ w.heap.size ≤ b := by
  have hrd := CanC.Q_rd hC hQ
  have HQ := Lib.hid hQ
  have HCK := Lib.hid hC
  obtain ⟨rl, -, -, hwz, hA, hdp, hrest⟩ := hQ
  obtain ⟨o, HO⟩ : ∃ o, Hid (bestOf C.x d = o) := ⟨_, rfl⟩
  rw [HO.out] at hrest
  obtain ⟨x, n, CL, B, m, dd, wL, ga, gf, gc, gb⟩ := C
  have hn1 : x.1 = (n : Int) := hC.hn
  have hp' : PermL x.1.toNat p := by rw [hn1]; simpa using hp
  have hsm : SmallP x := hC.small
  have hsm1 := hsm.1
  have hsm2 := hsm.2.1
  have hn0 : n ≠ 0 := by omega
  have hn5 : n ≤ 5 := by omega
  have HLEN : Hid ((codeL (ren x p).2).length = CL) := by show _ = _; rw [code_ren_len hsm hp']; exact hC.hCL
  have HCR : Hid (∀ y ∈ codeL (ren x p).2, InR y) := code_R (ren_small hp' hsm)
  have hCL : CL ≤ 1048576 := by rw [← HLEN.out]; exact code_small (ren_small hp' hsm)
  have cA0 : w.cell? ⟨ga, 0, none⟩ = some (.int .i64 (n : Int)) := by have := hA.cell 0; simpa using this
  have cA1 : w.cell? ⟨ga, 1, none⟩ = some (.slice B m dd) := by have := hA.cell 1; simpa using this
  have HREN : Hid (Calls Tryz.prog 23 #[.agg #[.int .i64 (n : Int), .slice B m dd], .slice N n c] w (AlgE w (ren x p))) := rename_any [.int .i64 (n : Int), .slice B m dd] x N n c p w hrd hR hsm hp'
  have HSM := Lib.hid hsm
  have HP' := Lib.hid hp'
  have HPP : Hid (PermL n p) := hp
  clear hrd hp' hsm hsm1 hsm2 hp hdp hA
  go_enter Tryz.func69, Tryz.ntmps69
  go_wp2_with fail
  refine HREN.out.mono ?_
  rintro e w1 ⟨v, css, bls, rfl, hPO, hb1⟩
  have e1 : (ren x p).1 = (n : Int) := hn1
  rw [e1]
  obtain ⟨VA, vc, rfl⟩ := own_slice hPO.2.1
  obtain ⟨w2, hw2, T2, hs2, BX⟩ := boxes1 w1 #[.int .i64 (n : Int), .slice VA (ren x p).2.length vc] 26
  have HW2 := Lib.hid hw2
  have cX0 := BX.cell 0
  have cX1 := BX.cell 1
  simp at cX0 cX1
  rw [hw2] at cX0 cX1
  have hPO2 := hPO.next T2
  have hrd2 : shAlgebra.rd w2 [.int .i64 (n : Int), .slice VA (ren x p).2.length vc] (ren x p) := by
    have := hPO2.alg (a := (ren x p).1) (by rw [e1]; exact ⟨by omega, by omega⟩)
    rw [e1] at this
    have h9 : ((n : Int), (ren x p).2) = ren x p := by rw [← e1]
    rw [h9] at this
    exact this
  have T2w := below_next hb1 T2 rfl
  clear hw2 hs2 e1 cA0 cA1
  go_wp2_with fail
  rw [← HW2.out]
  refine (codeOf_any _ (ren x p) _ hrd2 (cnt_small (ren_small HP'.out HSM.out))).mono ?_
  rintro e w3 ⟨AC, cC, rfl, hoC, hb3⟩
  rw [HLEN.out] at hoC ⊢
  have T3 := below_next T2w hb3 rfl
  have hPO3 := hPO2.next hb3
  have BX3 := BX.next hb3
  have hR3 := hR.next stab_RI T3
  have RC := rd_of_own (R := RI) hoC (RI_ints HCR.out)
  have hnx : w1.heap.size ≠ gf ∧ w1.heap.size ≠ gc ∧ w1.heap.size ≠ gb := by
    have h1 := CanC.Q_lt HQ.out
    have h2 := CanC.Q_sub HQ.out
    have h3 := hb1.size
    refine ⟨fun e => ?_, fun e => ?_, fun e => ?_⟩
    · have := h1 gf (h2 gf (by simp))
      omega
    · have := h1 gc (h2 gc (by simp))
      omega
    · have := h1 gb (h2 gb (by simp))
      omega
  have HBS := Lib.hid (bestOf_snoc x d p)
  have d1 : gf ≠ gc := hC.dist.1
  have d2 : gf ≠ gb := hC.dist.2.1
  have d3 : gc ≠ gb := hC.dist.2.2.1
  have d1' : gc ≠ gf := d1.symm
  have d2' : gb ≠ gf := d2.symm
  have d3' : gb ≠ gc := d3.symm
  clear cX0 cX1 hrd2 hPO hPO2
  rcases o with _ | b
  · obtain ⟨BF0, BC0, BB0, -⟩ := hrest
    have BFr := Blk.next BF0 T3
    have BCr := Blk.next BC0 T3
    have BBr := Blk.next BB0 T3
    have cF : w3.cell? ⟨gf, 0, none⟩ = some (.slice none 0 0) := BFr.c0
    have HB2 : Hid (bestOf x (d ++ [p]) = some p) := by show _ = _; rw [HBS.out, show bestOf x d = none from HO.out]; rfl
    have he := nil_eq0
    have cX0 := BX3.cell 0
    have cX1 := BX3.cell 1
    simp at cX0 cX1
    have cB0 := BBr.cell 0
    have cB1 := BBr.cell 1
    have fB0 := BBr.frozen 0
    have fB1 := BBr.frozen 1
    have cC0 := BCr.c0
    have fC0 := BCr.frozen 0
    have fF0 := BFr.frozen 0
    simp at cB0 cB1
    go_wp2_with fail
    go_region_with (go_at_call 67; refine (clone_any _ _ _ p _ (by first | exact hR3 | exact hR3.drew stab_RI) (by omega)).mono ?_; rintro e w4 ⟨A4, c4, rfl, ho4, hbn⟩; have hb4 := below_next (Below.drew (Below.refl w3.heap.size w3)) hbn rfl; have BF4 := BFr.next hb4; have BC4 := BCr.next hb4; have BB4 := BBr.next hb4; have BX4 := BX3.next hb4; have xX0 := BX4.cell 0; have xX1 := BX4.cell 1; have xB0 := BB4.cell 0; have xB1 := BB4.cell 1; have yB0 := BB4.frozen 0; have yB1 := BB4.frozen 1; have xC0 := BC4.cell 0; have yC0 := BC4.frozen 0; have xF0 := BF4.cell 0; have yF0 := BF4.frozen 0; simp at xX0 xX1 xB0 xB1 xC0 xF0)
    all_goals
      have T4 := below_next T3 hb4 rfl
      have HF := Lib.hid (CanC.finish HCK.out HQ.out HPP.out T4 BF4 BC4 BB4 (own_mono ho4 (show w.heap.size ≤ w3.heap.size from T3.size)) (own_mono (own_next hoC hb4) (show w.heap.size ≤ w2.heap.size from T2w.size)) (hPO3.next hb4) HB2.out)
      (try simp only [Exit.inBlock, Exit.then])
      go_end0
      exact ⟨rfl, HF.out⟩
  · obtain ⟨Af, cf, Ac, cc, vb, cssb, blsb, BF0, BC0, BB0, hf0, hc0, -, -⟩ := hrest
    have BFr := Blk.next BF0 T3
    have BCr := Blk.next BC0 T3
    have BBr := Blk.next BB0 T3
    have hfr : w.ownsRow wL.heap.size 3 1 (.slice Af n cf) n (ints b) := hf0
    obtain ⟨fg, rfl, -, -⟩ := own_some hfr hn0
    have cF : w3.cell? ⟨gf, 0, none⟩ = some (.slice (some ⟨fg, 0, none⟩) n cf) := BFr.c0
    have cC : w3.cell? ⟨gc, 0, none⟩ = some (.slice Ac CL cc) := BCr.c0
    have he := nil_eq1
    have hbp : PermL n b := by
      obtain ⟨rl', -, -, -, -, hdp, -⟩ := HQ.out
      exact hdp b (best_mem HO.out)
    have hbp' : PermL x.1.toNat b := by rw [hn1]; simpa using hbp
    have hcR : ∀ y ∈ codeL (ren x b).2, InR y := code_R (ren_small hbp' HSM.out)
    have RB0 : RdL RI w Ac CL (codeL (ren x b).2) := rd_of_own (R := RI) (show w.ownsRow wL.heap.size 3 1 (.slice Ac CL cc) CL (ints (codeL (ren x b).2)) from hc0) (RI_ints hcR)
    have RB3 := RB0.next stab_RI T3
    have hlen2 : (codeL (ren x p).2).length = (codeL (ren x b).2).length := by rw [HLEN.out, RB0.len]
    have hll := lex_less hlen2
    obtain ⟨V, HV⟩ : ∃ V, Hid (lexL (codeL (ren x p).2) (codeL (ren x b).2) = V) := ⟨_, rfl⟩
    rw [HV.out] at hll
    have HBB : Hid (bestOf x (d ++ [p]) = if lessL (codeL (ren x p).2) (codeL (ren x b).2) then some p else some b) := by show _ = _; rw [HBS.out, show bestOf x d = some b from HO.out]; rfl
    by_cases hv : V < 0
    · have HB2 : Hid (bestOf x (d ++ [p]) = some p) := by show _ = _; rw [HBB.out, hll.1 hv]; rfl
      clear hbp hbp' hcR RB0 hlen2 hll hf0 hc0 hfr
      go_wp2_with (go_at_call 71; refine (compareLists_any _ _ _ _ _ _ _ _ _ RC RB3).mono ?_; rintro e w' ⟨rfl, z, rfl⟩; rw [HV.out])
      have T5 := below_drewN T3 z
      have hR4 := hR3.drewN stab_RI z
      have BX5 := BX3.drewN z
      have BF5 := BFr.drewN z
      have BC5 := BCr.drewN z
      have BB5 := BBr.drewN z
      have hoC5 := own_drewN hoC z
      have hPO5 := hPO3.next (below_drewN (Below.refl w3.heap.size w3) z)
      obtain ⟨w5, hw5⟩ : ∃ w5, w5 = w3.drewN z := ⟨_, rfl⟩
      rw [← hw5] at T5 hR4 BX5 BF5 BC5 BB5 hoC5 hPO5 ⊢
      clear hw5 cF cC
      have cX0 := BX5.cell 0
      have cX1 := BX5.cell 1
      simp at cX0 cX1
      have cB0 := BB5.cell 0
      have cB1 := BB5.cell 1
      have fB0 := BB5.frozen 0
      have fB1 := BB5.frozen 1
      have cC0 := BC5.c0
      have fC0 := BC5.frozen 0
      have fF0 := BF5.frozen 0
      simp at cB0 cB1
      go_wp2_with fail
      go_region_with (go_at_call 67; refine (clone_any _ _ _ p _ (by first | exact hR4 | exact hR4.drew stab_RI) (by omega)).mono ?_; rintro e w4 ⟨A4, c4, rfl, ho4, hbn⟩; have hb4 := below_next (Below.drew (Below.refl w5.heap.size w5)) hbn rfl; have BF4 := BF5.next hb4; have BC4 := BC5.next hb4; have BB4 := BB5.next hb4; have BX4 := BX5.next hb4; have xX0 := BX4.cell 0; have xX1 := BX4.cell 1; have xB0 := BB4.cell 0; have xB1 := BB4.cell 1; have yB0 := BB4.frozen 0; have yB1 := BB4.frozen 1; have xC0 := BC4.cell 0; have yC0 := BC4.frozen 0; have xF0 := BF4.cell 0; have yF0 := BF4.frozen 0; simp at xX0 xX1 xB0 xB1 xC0 xF0)
      all_goals
        have T4 := below_next T5 hb4 rfl
        have HF := Lib.hid (CanC.finish HCK.out HQ.out HPP.out T4 BF4 BC4 BB4 (own_mono ho4 (show w.heap.size ≤ w5.heap.size from T5.size)) (own_mono (own_next hoC5 hb4) (show w.heap.size ≤ w2.heap.size from T2w.size)) (hPO5.next hb4) HB2.out)
        (try simp only [Exit.inBlock, Exit.then])
        go_end0
        exact ⟨rfl, HF.out⟩
    · have HB2 : Hid (bestOf x (d ++ [p]) = bestOf x d) := by
        show _ = _
        rw [HBB.out, show bestOf x d = some b from HO.out]
        rcases hl : lessL (codeL (ren x p).2) (codeL (ren x b).2) with _ | _
        · rfl
        · exact absurd (hll.2 hl) hv
      clear hbp hbp' hcR RB0 hlen2 hll hf0 hc0 hfr
      go_wp2_with (go_at_call 71; refine (compareLists_any _ _ _ _ _ _ _ _ _ RC RB3).mono ?_; rintro e w' ⟨rfl, z, rfl⟩; rw [HV.out])
      have T5 := below_drewN T3 z
      (try simp only [Exit.inBlock, Exit.then])
      go_end0
      exact ⟨rfl, bl, CanC.rest_keep HQ.out HPP.out T5 HB2.out, ChgB.ofBelow T5, fun b hb => .inl hb⟩
theorem res_row_tmpC {P : Program} {fn : Func} {p u : Tmp} {ty : TypeId} (h : fn.results = #[.cell p ty, .tmp u]) (tmps : Array Value) (w : World) (g : Nat) (t : TypeId) (cs : Array Value) (fr : Nat × Nat) (d : TypeDesc) (b : Value)
    (hp : tmps.getD p undef = .pointer (some ⟨g, 0, none⟩)) (hg : w.heap[g]? = some (.cells cs t fr))
    (hu : P.underlying ty = some d) (hd : (match d with | .struct _ | .array _ _ => true | _ => false) = true) (hi : (P.info? ty).map (·.size) = some cs.size) (hb : tmps.getD u undef = b) :
    (results fn tmps).run P w = .ok (.tuple #[.agg cs, b]) w := by
  rw [results_cell_tmp h, hp, hb]
  simp [asAddr, Result.andThen, run_loadVar_row w g t ty cs fr d hg hu hd hi]
/-- The canonical form and names handed back. -/
def CanE (w : World) (x : AlgebraM) (n : Nat) (e : Ending) (w' : World) : Prop := ∃ vb css bls Af cf, e = .returned (.tuple #[.agg #[.int .i64 (n : Int), vb], .slice Af n cf]) ∧ PO w.heap.size w' vb (canA x).2 css bls ∧ w'.ownsRow w.heap.size 3 1 (.slice Af n cf) n (ints (canN x)) ∧ Below w.heap.size w w'
theorem PO.notin {lo : Nat} {w : World} {v : Value} {xs : List OpM} {css : List (List Value)} {bls : List (List Nat)} (h : PO lo w v xs css bls) {g : Nat} {t : TypeId} {cs : Array Value} (hB : Blk w g t cs) (h1 : 64 ≠ t) (h2 : 3 ≠ t) : g ∉ obl v ++ bls.flatten := by
  intro hg
  rcases List.mem_append.1 hg with hg | hg
  · obtain ⟨cur, fr, hc⟩ := row_blk h.2.1 hg
    rw [hB] at hc
    injection hc with hc
    injection hc with _ h5
    exact h1 h5.symm
  · obtain ⟨bk, hbk, hb⟩ := List.mem_flatten.1 hg
    obtain ⟨k, hk⟩ := List.getElem?_of_mem hbk
    have hkl := (List.getElem?_eq_some_iff.1 hk).1
    have e1 := h.1.l1
    have e2 := h.1.l2
    obtain ⟨cur, fr, hc⟩ := shOp_blk (h.1.el k _ _ bk (List.getElem?_eq_getElem (by omega)) (List.getElem?_eq_getElem (by omega)) hk) hb
    rw [hB] at hc
    injection hc with hc
    injection hc with _ h5
    exact h2 h5.symm
theorem PO.farB {lo : Nat} {w : World} {v : Value} {xs : List OpM} {css : List (List Value)} {bls : List (List Nat)} (h : PO lo w v xs css bls) {g : Nat} {k : Nat} {u : Value} (hg : g ∉ obl v ++ bls.flatten) : PO lo (w.setCell ⟨g, k, none⟩ u) v xs css bls :=
  h.same (by simp) fun b hb => Below.heap_setCell w ⟨g, k, none⟩ u b fun e => hg (by rw [← show b = g from e]; exact hb)
theorem canEnter (args : Array Value) (w : World) : (callFunc 69 args).run Tryz.prog w = .ok (.enter 69 args) w := rfl
theorem canonical_any (cs : List Value) (x : AlgebraM) (n : Nat) (w : World) (h : shAlgebra.rd w cs x) (hx : SmallP x) (hn : x.1 = (n : Int)) :
    Calls Tryz.prog 39 #[.agg cs.toArray] w (CanE w x n) := by
  have hrd := h
  obtain ⟨B, m, d, rfl, qs, qo⟩ := rdAlgebra h
  rw [hn] at hrd qs ⊢
  have hn5 : n ≤ 5 := by have h1 := hx.2.1; omega
  obtain ⟨w5, hw5⟩ : ∃ w5, w5 = ((((w.alloc (.cells #[.int .i64 (n : Int), .slice B m d] 26)).alloc (.cells #[.int .i64 0, .slice none 0 0] 26)).alloc (.cells #[.int .i64 0, .slice none 0 0] 26)).alloc (.cells #[.slice none 0 0] 27)).alloc (.cells #[.slice none 0 0] 27) := ⟨_, rfl⟩
  have T5 : Below w.heap.size w w5 := by
    rw [hw5]
    exact (below_box4 w _ _ _ _).alloc (by simp; omega) _
  have hz5 : w5.heap.size = w.heap.size + 5 := by rw [hw5]; simp
  have BA : Blk w5 w.heap.size 26 #[.int .i64 (n : Int), .slice B m d] := by
    rw [hw5]
    exact ((((Blk.new w 26 #[.int .i64 (n : Int), .slice B m d]).alloc _).alloc _).alloc _).alloc _
  have BR : Blk w5 (w.heap.size + 1) 26 #[.int .i64 0, .slice none 0 0] := by
    rw [hw5]
    have := (((Blk.new (w.alloc (.cells #[.int .i64 (n : Int), .slice B m d] 26)) 26 #[.int .i64 0, .slice none 0 0]).alloc (.cells #[.int .i64 0, .slice none 0 0] 26)).alloc (.cells #[.slice none 0 0] 27)).alloc (.cells #[.slice none 0 0] 27)
    simpa using this
  have BB : Blk w5 (w.heap.size + 1 + 1) 26 #[.int .i64 0, .slice none 0 0] := by
    rw [hw5]
    have := ((Blk.new ((w.alloc (.cells #[.int .i64 (n : Int), .slice B m d] 26)).alloc (.cells #[.int .i64 0, .slice none 0 0] 26)) 26 #[.int .i64 0, .slice none 0 0]).alloc (.cells #[.slice none 0 0] 27)).alloc (.cells #[.slice none 0 0] 27)
    simpa using this
  have BC : Blk w5 (w.heap.size + 1 + 1 + 1) 27 #[.slice none 0 0] := by
    rw [hw5]
    have := (Blk.new (((w.alloc (.cells #[.int .i64 (n : Int), .slice B m d] 26)).alloc (.cells #[.int .i64 0, .slice none 0 0] 26)).alloc (.cells #[.int .i64 0, .slice none 0 0] 26)) 27 #[.slice none 0 0]).alloc (.cells #[.slice none 0 0] 27)
    simpa using this
  have BU : Blk w5 (w.heap.size + 1 + 1 + 1 + 1) 27 #[.slice none 0 0] := by
    rw [hw5]
    have := Blk.new ((((w.alloc (.cells #[.int .i64 (n : Int), .slice B m d] 26)).alloc (.cells #[.int .i64 0, .slice none 0 0] 26)).alloc (.cells #[.int .i64 0, .slice none 0 0] 26)).alloc (.cells #[.slice none 0 0] 27)) 27 #[.slice none 0 0]
    simpa using this
  obtain ⟨C, hCd⟩ : ∃ C : CanC, C = { x := x, n := n, CL := (codeL x.2).length, B := B, m := m, d := d, wL := w, ga := w.heap.size, gf := w.heap.size + 1 + 1 + 1 + 1, gc := w.heap.size + 1 + 1 + 1, gb := w.heap.size + 1 + 1 } := ⟨_, rfl⟩
  have hC : C.Ok := by
    subst hCd
    exact ⟨hrd, hx, hn, rfl, ⟨by show w.heap.size + 1 + 1 + 1 + 1 ≠ w.heap.size + 1 + 1 + 1; omega, by show w.heap.size + 1 + 1 + 1 + 1 ≠ w.heap.size + 1 + 1; omega, by show w.heap.size + 1 + 1 + 1 ≠ w.heap.size + 1 + 1; omega, by show w.heap.size ≠ w.heap.size + 1 + 1; omega, by show w.heap.size ≠ w.heap.size + 1 + 1 + 1 + 1; omega, by show w.heap.size ≠ w.heap.size + 1 + 1 + 1; omega⟩, ⟨by show w.heap.size ≤ w.heap.size; omega, by show w.heap.size ≤ w.heap.size + 1 + 1 + 1 + 1; omega, by show w.heap.size ≤ w.heap.size + 1 + 1 + 1; omega, by show w.heap.size ≤ w.heap.size + 1 + 1; omega⟩⟩
  have hQ5 : C.Q w5 [] (List.range w.heap.size ++ [w.heap.size, w.heap.size + 1 + 1 + 1 + 1, w.heap.size + 1 + 1 + 1, w.heap.size + 1 + 1]) := by
    subst hCd
    exact ⟨_, rfl, fun b hb => T5.block b hb, T5.size, BA, (fun p hp => by simp at hp), BU, BC, BB, rfl⟩
  have hF : FoundOk (ords C.n C.n []).length C.n 69 #[.pointer (some ⟨C.ga, 0, none⟩), .pointer (some ⟨C.gf, 0, none⟩), .pointer (some ⟨C.gc, 0, none⟩), .pointer (some ⟨C.gb, 0, none⟩)] C.Q := by
    refine ⟨canEnter, fun h1 h2 h3 => CanC.Q_stab h1 h2 h3, fun h1 => CanC.Q_lt h1, fun w1 d1 bl N c p _ h1 h2 h3 => ?_⟩
    refine (canClo_any C hC w1 d1 bl N c p h1 h2 h3).mono fun e w' ⟨e1, bl', e2, e3, e4⟩ => ⟨e1, bl', e2, e3.mono fun g hg => CanC.Q_sub h1 g (List.mem_cons_of_mem _ hg), e4⟩
  have HC : Hid (Calls Tryz.prog 68 #[.int .i64 (n : Int), .func (.func 69) #[] #[.pointer (some ⟨w.heap.size, 0, none⟩), .pointer (some ⟨w.heap.size + 1 + 1 + 1 + 1, 0, none⟩), .pointer (some ⟨w.heap.size + 1 + 1 + 1, 0, none⟩), .pointer (some ⟨w.heap.size + 1 + 1, 0, none⟩)]] w5
      (fun e w' => e = .returned (.tuple #[]) ∧ ∃ bl', C.Q w' (ords n n []) bl' ∧ ChgB (List.range w.heap.size ++ [w.heap.size, w.heap.size + 1 + 1 + 1 + 1, w.heap.size + 1 + 1 + 1, w.heap.size + 1 + 1]) w5 w')) := by
    have := eachOrder_any hF (by rw [hCd]; exact hn5) (Nat.le_refl _) w5 _ hQ5
    subst hCd
    exact this.mono fun e w' ⟨h1, bl', h2, h3, _⟩ => ⟨h1, bl', h2, h3⟩
  have cA0 := BA.cell 0
  simp at cA0
  rw [hw5] at cA0
  have HW5 := Lib.hid hw5
  have HT := Lib.hid (And.intro T5 (And.intro hz5 BR))
  have HCD := Lib.hid hCd
  have HNN : Hid (x.1.toNat = n) := by show _ = _; omega
  clear hw5 T5 hz5 BA BR BB BC BU hC hQ5 hF hCd h
  go_enter Tryz.func39, Tryz.ntmps39
  go_wp2_with fail
  rw [← HW5.out]
  refine HC.out.mono ?_
  rintro e w6 ⟨rfl, bl', hQ6, hc6⟩
  obtain ⟨T5, hz5, BR⟩ := HT.out
  have hcd := HCD.out
  subst hcd
  obtain ⟨rl, -, hsame, hsz, -, -, hrest⟩ := hQ6
  have hbest : bestOf x (ords n n []) = some (canN x) := by have := (canN_ok (x := x)).1; rw [HNN.out] at this; exact this
  have hrest' : CanC.rest { x := x, n := n, CL := (codeL x.2).length, B := B, m := m, d := d, wL := w, ga := w.heap.size, gf := w.heap.size + 1 + 1 + 1 + 1, gc := w.heap.size + 1 + 1 + 1, gb := w.heap.size + 1 + 1 } w6 (some (canN x)) rl := by rw [← hbest]; exact hrest
  obtain ⟨Af, cf, Ac, cc, vb, css, bls, h1, -, h3, h4, -, h6, -⟩ := hrest'
  replace h1 : Blk w6 (w.heap.size + 1 + 1 + 1 + 1) 27 #[.slice Af n cf] := h1
  replace h3 : Blk w6 (w.heap.size + 1 + 1) 26 #[.int .i64 (n : Int), vb] := h3
  replace h4 : w6.ownsRow w.heap.size 3 1 (.slice Af n cf) n (ints (canN x)) := h4
  replace h6 : PO w.heap.size w6 vb (ren x (canN x)).2 css bls := h6
  obtain ⟨VA, vc, rfl⟩ := own_slice h6.2.1
  have BR6 : Blk w6 (w.heap.size + 1) 26 #[.int .i64 0, .slice none 0 0] := (hc6.block _ BR.lt (by simp <;> omega)).trans BR
  have T6 : Below w.heap.size w w6 := ⟨hc6.os.trans T5.os, hc6.tape.trans T5.tape, hc6.output.trans T5.output, hsz, fun b hb => hsame b hb⟩
  obtain ⟨LA, HLA⟩ : ∃ LA, Hid ((ren x (canN x)).2.length = LA) := ⟨_, rfl⟩
  rw [HLA.out] at h6 h3
  have hni := h6.notin BR6 (by decide) (by decide)
  have hof := own_off h4 BR6 (by decide)
  have hPF := (h6.farB (k := 0) (u := .int .i64 (n : Int)) hni).farB (k := 1) (u := .slice VA LA vc) hni
  have hOF := own_set (own_set h4 (p := ⟨w.heap.size + 1, 0, none⟩) hof (.int .i64 (n : Int))) (p := ⟨w.heap.size + 1, 1, none⟩) hof (.slice VA LA vc)
  have hTF := (T6.setCell (p := ⟨w.heap.size + 1, 0, none⟩) (by show w.heap.size ≤ w.heap.size + 1; omega) (.int .i64 (n : Int))).setCell (p := ⟨w.heap.size + 1, 1, none⟩) (by show w.heap.size ≤ w.heap.size + 1; omega) (.slice VA LA vc)
  have BRR : Blk ((w6.setCell ⟨w.heap.size + 1, 0, none⟩ (.int .i64 (n : Int))).setCell ⟨w.heap.size + 1, 1, none⟩ (.slice VA LA vc)) (w.heap.size + 1) 26 #[.int .i64 (n : Int), .slice VA LA vc] := by simpa using ((BR6.set_ 0 (.int .i64 (n : Int))).set_ 1 (.slice VA LA vc))
  have HF1 := Lib.hid hPF
  have HF2 := Lib.hid hOF
  have HF3 := Lib.hid hTF
  have HF4 := Lib.hid BRR
  have cB0 := h3.cell 0
  have cB1 := h3.cell 1
  have cF0 := h1.c0
  have cR0 := BR6.cell 0
  have cR1 := BR6.cell 1
  have fR0 := BR6.frozen 0
  have fR1 := BR6.frozen 1
  simp at cB0 cB1 cR0 cR1
  clear h1 h3 h4 h6 BR6 T6 hni hof hPF hOF hTF BRR hrest hbest hsame T5 BR HC
  go_upto_region 4 with fail
  go_region
  all_goals
    go_wp2_with fail
    (try simp only [Exit.inBlock, Exit.then])
    refine bodyPost_ret (v := .tuple #[.agg #[.int .i64 (n : Int), .slice VA LA vc], .slice Af n cf]) (res_row_tmpC rfl _ _ (w.heap.size + 1) 26 #[.int .i64 (n : Int), .slice VA LA vc] (0, 0) _ _ (by simp) HF4.out.drew Tryz.underlying26 rfl (by kernel_rfl) rfl) rfl ?_
    exact ⟨_, css, bls, Af, cf, rfl, HF1.out.next (Below.drew (Below.refl _ _)), own_same HF2.out (fun _ _ => rfl), Below.drew HF3.out⟩
def cfM (x : AlgebraM) : AlgebraM := if smallB x then canA x else (0, [])
theorem implCF_any (cs : List Value) (x : AlgebraM) (w : World) (h : shAlgebra.rd w cs x) :
    Calls Tryz.prog 17 #[.agg cs.toArray] w (OwA shAlgebra w (cfM x) (smallB x)) := by
  have hrd := h
  obtain ⟨B, m, d, rfl, qs, qo⟩ := rdAlgebra h
  obtain ⟨w0, hw0, T0, hsz0, BP, BR⟩ := boxes2 w #[.int .i64 x.1, .slice B m d] #[.int .i64 0, .slice none 0 0] 26 26
  have HW0 := Lib.hid hw0
  have HZ0 := Lib.hid hsz0
  have cP0 := BP.cell 0
  have cP1 := BP.cell 1
  simp at cP0 cP1
  rw [hw0] at cP0 cP1
  clear hw0 hsz0
  obtain ⟨r, hr⟩ : ∃ r, smallB x = r := ⟨_, rfl⟩
  have HM : Hid (cfM x = if r then canA x else (0, [])) := by show _ = _; unfold cfM; rw [hr]
  have HS := Lib.hid hr
  rw [hr]
  clear hr
  go_enter Tryz.func17, Tryz.ntmps17
  go_wp2_with fail
  rw [← HW0.out]
  refine (isNamed_any _ x _ (shAlgebra.stab hrd T0.block)).mono ?_
  rintro e w1 ⟨rfl, hb1⟩
  rw [HS.out]
  have T1 := below_next T0 hb1 rfl
  have BR1 := BR.next hb1
  clear cP0 cP1
  have cP0 := (BP.next hb1).cell 0
  have cP1 := (BP.next hb1).cell 1
  have cR0 := BR1.cell 0
  have cR1 := BR1.cell 1
  have fR0 := BR1.frozen 0
  have fR1 := BR1.frozen 1
  simp at cP0 cP1 cR0 cR1
  rcases r with _ | _
  · have HM2 : Hid (cfM x = (0, [])) := HM.out
    have BRR : Blk ((w1.setCell ⟨w.heap.size + 1, 0, none⟩ (.int .i64 0)).setCell ⟨w.heap.size + 1, 1, none⟩ (.slice none 0 0)) (w.heap.size + 1) 26 #[.int .i64 0, .slice none 0 0] := by simpa using ((BR1.set_ 0 (.int .i64 0)).set_ 1 (.slice none 0 0))
    have hT := (T1.setCell (p := ⟨w.heap.size + 1, 0, none⟩) (by show w.heap.size ≤ w.heap.size + 1; omega) (.int .i64 0)).setCell (p := ⟨w.heap.size + 1, 1, none⟩) (by show w.heap.size ≤ w.heap.size + 1; omega) (.slice none 0 0)
    have HF := Lib.hid BRR
    have HT := Lib.hid hT
    clear BRR hT
    go_wp2_with fail
    (try simp only [Exit.inBlock, Exit.then])
    refine bodyPost_ret (v := .tuple #[.agg #[.int .i64 0, .slice none 0 0], .bool false]) (res_row_tmpC rfl _ _ (w.heap.size + 1) 26 #[.int .i64 0, .slice none 0 0] (0, 0) _ _ (by simp) HF.out Tryz.underlying26 rfl (by kernel_rfl) rfl) rfl ?_
    exact ⟨[.int .i64 0, .slice none 0 0], [], rfl, by rw [HM2.out]; exact nilAlg _, Iv.nil _ _, HT.out⟩
  · have hsm := small_iff.1 HS.out
    obtain ⟨n, hn⟩ : ∃ n : Nat, x.1 = (n : Int) := ⟨x.1.toNat, by have h1 := hsm.1; omega⟩
    have HCAN := Lib.hid (canonical_any [.int .i64 x.1, .slice B m d] x n w1 (shAlgebra.stab hrd T1.block) hsm hn)
    have HM2 : Hid (cfM x = canA x) := HM.out
    have HN1 : Hid ((canA x).1 = (n : Int)) := hn
    have HSR : Hid (InR (n : Int)) := by show InR _; rw [← hn]; exact small_R hsm
    clear hn
    go_wp2_with fail
    refine HCAN.out.mono ?_
    rintro e w2 ⟨vb, css, bls, Af, cf, rfl, hP, ho, hb2⟩
    have T2 := below_next T1 hb2 rfl
    obtain ⟨VA, vc, rfl⟩ := own_slice hP.2.1
    obtain ⟨LA, HLA⟩ : ∃ LA, Hid ((canA x).2.length = LA) := ⟨_, rfl⟩
    rw [HLA.out] at hP
    rw [HLA.out]
    obtain ⟨w3, hw3, T3', -, BX⟩ := boxes1 w2 #[.int .i64 (n : Int), .slice VA LA vc] 26
    have HW3 : Hid (_ = w3) := hw3.symm
    have T3 := below_next T2 T3' rfl
    have BR3 := (BR1.next hb2).next T3'
    have hP3 := (hP.next T3').mono T1.size
    have hlow := T1.size
    have hP3n : w.heap.size + 1 ∉ obl (.slice VA LA vc) ++ bls.flatten := hP3.notin BR3 (by decide) (by decide)
    have hPF := (hP3.farB (k := 0) (u := .int .i64 (n : Int)) hP3n).farB (k := 1) (u := .slice VA LA vc) hP3n
    have hTF := (T3.setCell (p := ⟨w.heap.size + 1, 0, none⟩) (by show w.heap.size ≤ w.heap.size + 1; omega) (.int .i64 (n : Int))).setCell (p := ⟨w.heap.size + 1, 1, none⟩) (by show w.heap.size ≤ w.heap.size + 1; omega) (.slice VA LA vc)
    have BRR : Blk ((w3.setCell ⟨w.heap.size + 1, 0, none⟩ (.int .i64 (n : Int))).setCell ⟨w.heap.size + 1, 1, none⟩ (.slice VA LA vc)) (w.heap.size + 1) 26 #[.int .i64 (n : Int), .slice VA LA vc] := by simpa using ((BR3.set_ 0 (.int .i64 (n : Int))).set_ 1 (.slice VA LA vc))
    have hOW : shAlgebra.own ((w3.setCell ⟨w.heap.size + 1, 0, none⟩ (.int .i64 (n : Int))).setCell ⟨w.heap.size + 1, 1, none⟩ (.slice VA LA vc)) [.int .i64 (n : Int), .slice VA LA vc] (canA x) (obl (.slice VA LA vc) ++ bls.flatten) := by
      have := hPF.algO HSR.out
      have e9 : ((n : Int), (canA x).2) = canA x := by rw [← HN1.out]
      rw [e9] at this
      exact this
    have HF1 := Lib.hid hOW
    have HF2 := Lib.hid hPF.2.2
    have HF3 := Lib.hid hTF
    have HF4 := Lib.hid BRR
    have cX0 := BX.cell 0
    have cX1 := BX.cell 1
    have xR0 := BR3.cell 0
    have xR1 := BR3.cell 1
    have xf0 := BR3.frozen 0
    have xf1 := BR3.frozen 1
    simp at cX0 cX1 xR0 xR1
    have hxl : w.heap.size + 1 < w2.heap.size := (BR1.next hb2).lt
    have n8 : ¬ w.heap.size + 1 = w2.heap.size := by omega
    have n9 : ¬ w2.heap.size = w.heap.size + 1 := by omega
    have cX1' := cell_far (w := w3) (p := ⟨w.heap.size + 1, 0, none⟩) (a := ⟨w2.heap.size, 1, none⟩) (u := .int .i64 (n : Int)) n9 (by have := BX.cell 1; simpa using this)
    clear hw3 hP ho hP3 hP3n hPF hTF BRR hOW cR0 cR1 fR0 fR1 cP0 cP1
    go_upto_region 4 with fail
    rw [HW3.out]
    go_wp2_with fail
    (try simp only [Exit.inBlock, Exit.then])
    refine bodyPost_ret (v := .tuple #[.agg #[.int .i64 (n : Int), .slice VA LA vc], .bool true]) (res_row_tmpC rfl _ _ (w.heap.size + 1) 26 #[.int .i64 (n : Int), .slice VA LA vc] (0, 0) _ _ (by simp) HF4.out Tryz.underlying26 rfl (by kernel_rfl) rfl) rfl ?_
    exact ⟨[.int .i64 (n : Int), .slice VA LA vc], _, rfl, by rw [HM2.out]; exact HF1.out, HF2.out, HF3.out⟩
noncomputable def reB (x : AlgebraM) (s : List Int) : Bool := algB x && permB x.1.toNat s
noncomputable def reM (x : AlgebraM) (s : List Int) : AlgebraM := if reB x s then ren x s else (0, [])
theorem implRE_any (cs : List Value) (x : AlgebraM) (N : Option Addr) (k c : Nat) (s : List Int) (w : World) (h : shAlgebra.rd w cs x) (hs : RdL RI w N k s) :
    Calls Tryz.prog 6 #[.agg cs.toArray, .slice N k c] w (OwA shAlgebra w (reM x s) (reB x s)) := by
  have hrd := h
  obtain ⟨B, m, d, rfl, qs, qo⟩ := rdAlgebra h
  obtain ⟨w0, hw0, T0, hsz0, BP, BR⟩ := boxes2 w #[.int .i64 x.1, .slice B m d] #[.int .i64 0, .slice none 0 0] 26 26
  have HW0 := Lib.hid hw0
  have cP0 := BP.cell 0
  have cP1 := BP.cell 1
  simp at cP0 cP1
  have hs0 := hs.next stab_RI T0
  have hr0 := stab_same hrd T0
  have HG := Lib.hid (isAlgebra_any _ x w0 hr0)
  obtain ⟨r, hr⟩ : ∃ r, algB x = r := ⟨_, rfl⟩
  have HS := Lib.hid hr
  rw [hr] at HG
  clear hw0 hsz0 hr hs hrd
  go_enter Tryz.func6, Tryz.ntmps6
  go_upto_region 1 with fail
  rw [← HW0.out]
  rcases r with _ | _
  · have HM : Hid (reB x s = false ∧ reM x s = (0, [])) := by
      have h1 : reB x s = false := by unfold reB; rw [HS.out]; rfl
      exact ⟨h1, by unfold reM; rw [h1]; rfl⟩
    go_wp2_with fail
    refine HG.out.mono ?_
    rintro e w1 ⟨rfl, hb1⟩
    have T1 := below_next T0 hb1 rfl
    have BR1 := BR.next hb1
    have cR0 := BR1.cell 0
    have cR1 := BR1.cell 1
    have fR0 := BR1.frozen 0
    have fR1 := BR1.frozen 1
    simp at cR0 cR1
    have BRR : Blk ((w1.setCell ⟨w.heap.size + 1, 0, none⟩ (.int .i64 0)).setCell ⟨w.heap.size + 1, 1, none⟩ (.slice none 0 0)) (w.heap.size + 1) 26 #[.int .i64 0, .slice none 0 0] := by simpa using ((BR1.set_ 0 (.int .i64 0)).set_ 1 (.slice none 0 0))
    have hT := (T1.setCell (p := ⟨w.heap.size + 1, 0, none⟩) (by show w.heap.size ≤ w.heap.size + 1; omega) (.int .i64 0)).setCell (p := ⟨w.heap.size + 1, 1, none⟩) (by show w.heap.size ≤ w.heap.size + 1; omega) (.slice none 0 0)
    have HF := Lib.hid BRR
    have HT := Lib.hid hT
    clear BRR hT
    go_wp2_with fail
    (try simp only [Exit.inBlock, Exit.then])
    rw [HM.out.1, HM.out.2]
    refine bodyPost_ret (v := .tuple #[.agg #[.int .i64 0, .slice none 0 0], .bool false]) (res_row_tmpC rfl _ _ (w.heap.size + 1) 26 #[.int .i64 0, .slice none 0 0] (0, 0) _ _ (by simp) HF.out Tryz.underlying26 rfl (by kernel_rfl) rfl) rfl ?_
    exact ⟨[.int .i64 0, .slice none 0 0], [], rfl, nilAlg _, Iv.nil _ _, HT.out⟩
  · have hx := alg_iff.1 HS.out
    obtain ⟨z, ops⟩ := x
    obtain ⟨n, rfl⟩ : ∃ n : Nat, z = (n : Int) := ⟨z.toNat, by have h1 : 1 ≤ z := hx.1; omega⟩
    have hn8 : n ≤ 8 := by have h1 : (n : Int) ≤ 8 := hx.2.1; omega
    obtain ⟨q, hq⟩ : ∃ q, permB n s = q := ⟨_, rfl⟩
    have HQ := Lib.hid hq
    have HQ2 : Hid (reB ((n : Int), ops) s = q) := by show _ = _; unfold reB; rw [HS.out, ← hq]; rfl
    have HX := Lib.hid hx
    clear hq
    go_wp2_with fail
    refine HG.out.mono ?_
    rintro e w1 ⟨rfl, hb1⟩
    have T1 := below_next T0 hb1 rfl
    have BR1 := BR.next hb1
    have hs1 := hs0.next stab_RI hb1
    have hr1 := stab_same hr0 hb1
    have HO := isOrder_any N k c n s w1 hs1 (by omega)
    rw [HQ.out] at HO
    have HO := Lib.hid HO
    clear cP0 cP1
    have cP0 := (BP.next hb1).cell 0
    simp at cP0
    go_wp2_with fail
    refine HO.out.mono ?_
    rintro e w2 ⟨rfl, hb2⟩
    replace T1 := below_next T1 hb2 rfl
    replace BR1 := BR1.next hb2
    have hs2 := hs1.next stab_RI hb2
    have hr2 := stab_same hr1 hb2
    clear cP0
    rcases q with _ | _
    · have HM : Hid (reB ((n : Int), ops) s = false ∧ reM ((n : Int), ops) s = (0, [])) := ⟨HQ2.out, by unfold reM; rw [HQ2.out]; rfl⟩
      have cR0 := BR1.cell 0
      have cR1 := BR1.cell 1
      have fR0 := BR1.frozen 0
      have fR1 := BR1.frozen 1
      simp at cR0 cR1
      have BRR : Blk ((w2.setCell ⟨w.heap.size + 1, 0, none⟩ (.int .i64 0)).setCell ⟨w.heap.size + 1, 1, none⟩ (.slice none 0 0)) (w.heap.size + 1) 26 #[.int .i64 0, .slice none 0 0] := by simpa using ((BR1.set_ 0 (.int .i64 0)).set_ 1 (.slice none 0 0))
      have hT := (T1.setCell (p := ⟨w.heap.size + 1, 0, none⟩) (by show w.heap.size ≤ w.heap.size + 1; omega) (.int .i64 0)).setCell (p := ⟨w.heap.size + 1, 1, none⟩) (by show w.heap.size ≤ w.heap.size + 1; omega) (.slice none 0 0)
      have HF := Lib.hid BRR
      have HT := Lib.hid hT
      clear BRR hT
      go_wp2_with fail
      (try simp only [Exit.inBlock, Exit.then])
      rw [HM.out.1, HM.out.2]
      refine bodyPost_ret (v := .tuple #[.agg #[.int .i64 0, .slice none 0 0], .bool false]) (res_row_tmpC rfl _ _ (w.heap.size + 1) 26 #[.int .i64 0, .slice none 0 0] (0, 0) _ _ (by simp) HF.out Tryz.underlying26 rfl (by kernel_rfl) rfl) rfl ?_
      exact ⟨[.int .i64 0, .slice none 0 0], [], rfl, nilAlg _, Iv.nil _ _, HT.out⟩
    · have HM : Hid (reB ((n : Int), ops) s = true ∧ reM ((n : Int), ops) s = ren ((n : Int), ops) s) := ⟨HQ2.out, by unfold reM; rw [HQ2.out]; rfl⟩
      have HRN := Lib.hid (rename8_any _ ((n : Int), ops) N k c s w2 hr2 hs2 HX.out (tt_iff.1 HQ.out))
      have HSR : Hid (InR (n : Int)) := ⟨by omega, by omega⟩
      have cP0 := (BP.next (below_next hb1 hb2 rfl)).cell 0
      have cP1 := (BP.next (below_next hb1 hb2 rfl)).cell 1
      simp at cP0 cP1
      obtain ⟨y, HY⟩ : ∃ y, Hid (ren ((n : Int), ops) s = y) := ⟨_, Lib.hid rfl⟩
      have HY1 : Hid (y.1 = (n : Int)) := by show _ = _; rw [← HY.out]; rfl
      rw [HY.out] at HRN HM
      go_wp2_with fail
      refine HRN.out.mono ?_
      rintro e w3 ⟨v, css, bls, rfl, hP, hb3⟩
      have T3 := below_next T1 hb3 rfl
      have BR3 := BR1.next hb3
      obtain ⟨VA, vc, rfl⟩ := own_slice hP.2.1
      obtain ⟨LA, HLA⟩ : ∃ LA, Hid (y.2.length = LA) := ⟨_, rfl⟩
      rw [HLA.out] at hP
      rw [HLA.out, HY1.out]
      have hP3 := hP.mono T1.size
      have hPn : w.heap.size + 1 ∉ obl (.slice VA LA vc) ++ bls.flatten := hP3.notin BR3 (by decide) (by decide)
      have hPF := (hP3.farB (k := 0) (u := .int .i64 (n : Int)) hPn).farB (k := 1) (u := .slice VA LA vc) hPn
      have hTF := (T3.setCell (p := ⟨w.heap.size + 1, 0, none⟩) (by show w.heap.size ≤ w.heap.size + 1; omega) (.int .i64 (n : Int))).setCell (p := ⟨w.heap.size + 1, 1, none⟩) (by show w.heap.size ≤ w.heap.size + 1; omega) (.slice VA LA vc)
      have BRR : Blk ((w3.setCell ⟨w.heap.size + 1, 0, none⟩ (.int .i64 (n : Int))).setCell ⟨w.heap.size + 1, 1, none⟩ (.slice VA LA vc)) (w.heap.size + 1) 26 #[.int .i64 (n : Int), .slice VA LA vc] := by simpa using ((BR3.set_ 0 (.int .i64 (n : Int))).set_ 1 (.slice VA LA vc))
      have hOW : shAlgebra.own ((w3.setCell ⟨w.heap.size + 1, 0, none⟩ (.int .i64 (n : Int))).setCell ⟨w.heap.size + 1, 1, none⟩ (.slice VA LA vc)) [.int .i64 (n : Int), .slice VA LA vc] y (obl (.slice VA LA vc) ++ bls.flatten) := by
        have := hPF.algO HSR.out
        have e9 : ((n : Int), y.2) = y := by rw [← HY1.out]
        rw [e9] at this
        exact this
      have HF1 := Lib.hid hOW
      have HF2 := Lib.hid hPF.2.2
      have HF3 := Lib.hid hTF
      have HF4 := Lib.hid BRR
      have xR0 := BR3.cell 0
      have xR1 := BR3.cell 1
      have xf0 := BR3.frozen 0
      have xf1 := BR3.frozen 1
      simp at xR0 xR1
      clear hP hP3 hPn hPF hTF BRR hOW cP0 cP1
      go_wp2_with fail
      (try simp only [Exit.inBlock, Exit.then])
      rw [HM.out.1, HM.out.2]
      refine bodyPost_ret (v := .tuple #[.agg #[.int .i64 (n : Int), .slice VA LA vc], .bool true]) (res_row_tmpC rfl _ _ (w.heap.size + 1) 26 #[.int .i64 (n : Int), .slice VA LA vc] (0, 0) _ _ (by simp) HF4.out Tryz.underlying26 rfl (by kernel_rfl) rfl) rfl ?_
      exact ⟨[.int .i64 (n : Int), .slice VA LA vc], _, rfl, HF1.out, HF2.out, HF3.out⟩
theorem specRE_any (cs : List Value) (x : AlgebraM) (N : Option Addr) (k c : Nat) (s : List Int) (w : World) (h : shAlgebra.rd w cs x) (hs : RdL RI w N k s) :
    Calls Tryz.prog 7 #[.agg cs.toArray, .slice N k c] w (OwA shAlgebra w (reM x s) (reB x s)) := by
  have hrd := h
  obtain ⟨B, m, d, rfl, qs, qo⟩ := rdAlgebra h
  obtain ⟨w0, hw0, T0, hsz0, BP, BR⟩ := boxes2 w #[.int .i64 x.1, .slice B m d] #[.int .i64 0, .slice none 0 0] 26 26
  have HW0 := Lib.hid hw0
  have cP0 := BP.cell 0
  have cP1 := BP.cell 1
  simp at cP0 cP1
  have hs0 := hs.next stab_RI T0
  have hr0 := stab_same hrd T0
  have HG := Lib.hid (l2Good_any _ x w0 hr0)
  obtain ⟨r, hr⟩ : ∃ r, algB x = r := ⟨_, rfl⟩
  have HS := Lib.hid hr
  rw [hr] at HG
  clear hw0 hsz0 hr hs hrd
  go_enter Tryz.func7, Tryz.ntmps7
  go_upto_region 1 with fail
  rw [← HW0.out]
  rcases r with _ | _
  · have HM : Hid (reB x s = false ∧ reM x s = (0, [])) := by
      have h1 : reB x s = false := by unfold reB; rw [HS.out]; rfl
      exact ⟨h1, by unfold reM; rw [h1]; rfl⟩
    go_wp2_with fail
    refine HG.out.mono ?_
    rintro e w1 ⟨rfl, hb1⟩
    have T1 := below_next T0 hb1 rfl
    have BR1 := BR.next hb1
    have cR0 := BR1.cell 0
    have cR1 := BR1.cell 1
    have fR0 := BR1.frozen 0
    have fR1 := BR1.frozen 1
    simp at cR0 cR1
    have BRR : Blk ((w1.setCell ⟨w.heap.size + 1, 0, none⟩ (.int .i64 0)).setCell ⟨w.heap.size + 1, 1, none⟩ (.slice none 0 0)) (w.heap.size + 1) 26 #[.int .i64 0, .slice none 0 0] := by simpa using ((BR1.set_ 0 (.int .i64 0)).set_ 1 (.slice none 0 0))
    have hT := (T1.setCell (p := ⟨w.heap.size + 1, 0, none⟩) (by show w.heap.size ≤ w.heap.size + 1; omega) (.int .i64 0)).setCell (p := ⟨w.heap.size + 1, 1, none⟩) (by show w.heap.size ≤ w.heap.size + 1; omega) (.slice none 0 0)
    have HF := Lib.hid BRR
    have HT := Lib.hid hT
    clear BRR hT
    go_wp2_with fail
    (try simp only [Exit.inBlock, Exit.then])
    rw [HM.out.1, HM.out.2]
    refine bodyPost_ret (v := .tuple #[.agg #[.int .i64 0, .slice none 0 0], .bool false]) (res_row_tmpC rfl _ _ (w.heap.size + 1) 26 #[.int .i64 0, .slice none 0 0] (0, 0) _ _ (by simp) HF.out Tryz.underlying26 rfl (by kernel_rfl) rfl) rfl ?_
    exact ⟨[.int .i64 0, .slice none 0 0], [], rfl, nilAlg _, Iv.nil _ _, HT.out⟩
  · have hx := alg_iff.1 HS.out
    obtain ⟨z, ops⟩ := x
    obtain ⟨n, rfl⟩ : ∃ n : Nat, z = (n : Int) := ⟨z.toNat, by have h1 : 1 ≤ z := hx.1; omega⟩
    have hn8 : n ≤ 8 := by have h1 : (n : Int) ≤ 8 := hx.2.1; omega
    obtain ⟨q, hq⟩ : ∃ q, permB n s = q := ⟨_, rfl⟩
    have HQ := Lib.hid hq
    have HQ2 : Hid (reB ((n : Int), ops) s = q) := by show _ = _; unfold reB; rw [HS.out, ← hq]; rfl
    have HX := Lib.hid hx
    clear hq
    go_wp2_with fail
    refine HG.out.mono ?_
    rintro e w1 ⟨rfl, hb1⟩
    have T1 := below_next T0 hb1 rfl
    have BR1 := BR.next hb1
    have hs1 := hs0.next stab_RI hb1
    have hr1 := stab_same hr0 hb1
    have HO := l2PermB_any N k c n s w1 hs1 (by omega)
    rw [HQ.out] at HO
    have HO := Lib.hid HO
    clear cP0 cP1
    have cP0 := (BP.next hb1).cell 0
    simp at cP0
    go_wp2_with fail
    refine HO.out.mono ?_
    rintro e w2 ⟨rfl, hb2⟩
    replace T1 := below_next T1 hb2 rfl
    replace BR1 := BR1.next hb2
    have hs2 := hs1.next stab_RI hb2
    have hr2 := stab_same hr1 hb2
    clear cP0
    rcases q with _ | _
    · have HM : Hid (reB ((n : Int), ops) s = false ∧ reM ((n : Int), ops) s = (0, [])) := ⟨HQ2.out, by unfold reM; rw [HQ2.out]; rfl⟩
      have cR0 := BR1.cell 0
      have cR1 := BR1.cell 1
      have fR0 := BR1.frozen 0
      have fR1 := BR1.frozen 1
      simp at cR0 cR1
      have BRR : Blk ((w2.setCell ⟨w.heap.size + 1, 0, none⟩ (.int .i64 0)).setCell ⟨w.heap.size + 1, 1, none⟩ (.slice none 0 0)) (w.heap.size + 1) 26 #[.int .i64 0, .slice none 0 0] := by simpa using ((BR1.set_ 0 (.int .i64 0)).set_ 1 (.slice none 0 0))
      have hT := (T1.setCell (p := ⟨w.heap.size + 1, 0, none⟩) (by show w.heap.size ≤ w.heap.size + 1; omega) (.int .i64 0)).setCell (p := ⟨w.heap.size + 1, 1, none⟩) (by show w.heap.size ≤ w.heap.size + 1; omega) (.slice none 0 0)
      have HF := Lib.hid BRR
      have HT := Lib.hid hT
      clear BRR hT
      go_wp2_with fail
      (try simp only [Exit.inBlock, Exit.then])
      rw [HM.out.1, HM.out.2]
      refine bodyPost_ret (v := .tuple #[.agg #[.int .i64 0, .slice none 0 0], .bool false]) (res_row_tmpC rfl _ _ (w.heap.size + 1) 26 #[.int .i64 0, .slice none 0 0] (0, 0) _ _ (by simp) HF.out Tryz.underlying26 rfl (by kernel_rfl) rfl) rfl ?_
      exact ⟨[.int .i64 0, .slice none 0 0], [], rfl, nilAlg _, Iv.nil _ _, HT.out⟩
    · have HM : Hid (reB ((n : Int), ops) s = true ∧ reM ((n : Int), ops) s = ren ((n : Int), ops) s) := ⟨HQ2.out, by unfold reM; rw [HQ2.out]; rfl⟩
      have HRN := Lib.hid (l2Rename8_any _ ((n : Int), ops) N k c s w2 hr2 hs2 HX.out (tt_iff.1 HQ.out))
      have HSR : Hid (InR (n : Int)) := ⟨by omega, by omega⟩
      have cP0 := (BP.next (below_next hb1 hb2 rfl)).cell 0
      have cP1 := (BP.next (below_next hb1 hb2 rfl)).cell 1
      simp at cP0 cP1
      obtain ⟨y, HY⟩ : ∃ y, Hid (ren ((n : Int), ops) s = y) := ⟨_, Lib.hid rfl⟩
      have HY1 : Hid (y.1 = (n : Int)) := by show _ = _; rw [← HY.out]; rfl
      rw [HY.out] at HRN HM
      go_wp2_with fail
      refine HRN.out.mono ?_
      rintro e w3 ⟨v, css, bls, rfl, hP, hb3⟩
      have T3 := below_next T1 hb3 rfl
      have BR3 := BR1.next hb3
      obtain ⟨VA, vc, rfl⟩ := own_slice hP.2.1
      obtain ⟨LA, HLA⟩ : ∃ LA, Hid (y.2.length = LA) := ⟨_, rfl⟩
      rw [HLA.out] at hP
      rw [HLA.out, HY1.out]
      have hP3 := hP.mono T1.size
      have hPn : w.heap.size + 1 ∉ obl (.slice VA LA vc) ++ bls.flatten := hP3.notin BR3 (by decide) (by decide)
      have hPF := (hP3.farB (k := 0) (u := .int .i64 (n : Int)) hPn).farB (k := 1) (u := .slice VA LA vc) hPn
      have hTF := (T3.setCell (p := ⟨w.heap.size + 1, 0, none⟩) (by show w.heap.size ≤ w.heap.size + 1; omega) (.int .i64 (n : Int))).setCell (p := ⟨w.heap.size + 1, 1, none⟩) (by show w.heap.size ≤ w.heap.size + 1; omega) (.slice VA LA vc)
      have BRR : Blk ((w3.setCell ⟨w.heap.size + 1, 0, none⟩ (.int .i64 (n : Int))).setCell ⟨w.heap.size + 1, 1, none⟩ (.slice VA LA vc)) (w.heap.size + 1) 26 #[.int .i64 (n : Int), .slice VA LA vc] := by simpa using ((BR3.set_ 0 (.int .i64 (n : Int))).set_ 1 (.slice VA LA vc))
      have hOW : shAlgebra.own ((w3.setCell ⟨w.heap.size + 1, 0, none⟩ (.int .i64 (n : Int))).setCell ⟨w.heap.size + 1, 1, none⟩ (.slice VA LA vc)) [.int .i64 (n : Int), .slice VA LA vc] y (obl (.slice VA LA vc) ++ bls.flatten) := by
        have := hPF.algO HSR.out
        have e9 : ((n : Int), y.2) = y := by rw [← HY1.out]
        rw [e9] at this
        exact this
      have HF1 := Lib.hid hOW
      have HF2 := Lib.hid hPF.2.2
      have HF3 := Lib.hid hTF
      have HF4 := Lib.hid BRR
      have xR0 := BR3.cell 0
      have xR1 := BR3.cell 1
      have xf0 := BR3.frozen 0
      have xf1 := BR3.frozen 1
      simp at xR0 xR1
      clear hP hP3 hPn hPF hTF BRR hOW cP0 cP1
      go_wp2_with fail
      (try simp only [Exit.inBlock, Exit.then])
      rw [HM.out.1, HM.out.2]
      refine bodyPost_ret (v := .tuple #[.agg #[.int .i64 (n : Int), .slice VA LA vc], .bool true]) (res_row_tmpC rfl _ _ (w.heap.size + 1) 26 #[.int .i64 (n : Int), .slice VA LA vc] (0, 0) _ _ (by simp) HF4.out Tryz.underlying26 rfl (by kernel_rfl) rfl) rfl ?_
      exact ⟨[.int .i64 (n : Int), .slice VA LA vc], _, rfl, HF1.out, HF2.out, HF3.out⟩
theorem few_five {n : Nat} {ops : List OpM} (hn : n ≤ 5) : fewB n ops = true ∧ AllC n ops (conL n ops) := by
  have key : ∀ l : List (List Int), ∃ L, SrtC L ∧ ∀ p, p ∈ L ↔ p ∈ l := by
    intro l
    induction l with
    | nil => exact ⟨[], List.Pairwise.nil, fun p => Iff.rfl⟩
    | cons q l ih =>
      obtain ⟨L, h1, h2⟩ := ih
      obtain ⟨s1, s2, -⟩ := putC_spec q h1
      exact ⟨putC q L, s1, fun p => by rw [s2, h2, List.mem_cons]⟩
  obtain ⟨L, h1, h2⟩ := key ((partsL n).filter fun p => congB n ops p)
  have h3 : ∀ p, p ∈ L ↔ congB n ops p = true := fun p => by
    rw [h2, List.mem_filter]
    exact ⟨fun h => h.2, fun h => ⟨par_mem (cong_par h), h⟩⟩
  have h4 := pars_len hn h1.nodup fun p hp => cong_par ((h3 p).1 hp)
  obtain ⟨h5, h6⟩ := con_yes (L := L) ⟨h1, h3⟩ (by omega)
  rw [h6]
  exact ⟨h5, h1, h3⟩
theorem back_ops {n : Nat} {s : List Int} {ops : List OpM} (hs : PermL n s) (hx : SmallP ((n : Int), ops)) : (ops.map (renOp n s)).map (renOp n (inv n s)) = ops := by
  have := ren_inv (x := ((n : Int), ops)) hx hs
  unfold ren at this
  injection this
theorem ops_ok {n : Nat} {ops : List OpM} (hx : SmallP ((n : Int), ops)) : ∀ o ∈ ops, OpP n o := hx.2.2.2
theorem ops_ok' {n : Nat} {s : List Int} {ops : List OpM} (hs : PermL n s) (hx : SmallP ((n : Int), ops)) : ∀ o ∈ ops.map (renOp n s), OpP n o := fun o ho => by
  obtain ⟨o1, ho1, rfl⟩ := List.mem_map.1 ho
  exact renOp_small hs (hx.2.2.2 o1 ho1)
theorem con_lenR {n : Nat} {s : List Int} {ops : List OpM} (hn : 0 < n) (h5 : n ≤ 5) (hs : PermL n s) (hx : SmallP ((n : Int), ops)) : (conL n ops).length = (conL n (ops.map (renOp n s))).length := by
  have h1 := (few_five (ops := ops) h5).2
  have h2 := (few_five (ops := ops.map (renOp n s)) h5).2
  refine Nat.le_antisymm (cong_len hn hs (ops_ok hx) h1.1.nodup (fun p hp => (h1.2 p).1 hp) fun p hp => (h2.2 p).2 hp) ?_
  refine cong_len hn (inv_perm hs) (ops_ok' hs hx) h2.1.nodup (fun p hp => (h2.2 p).1 hp) fun p hp => ?_
  rw [back_ops hs hx] at hp
  exact (h1.2 p).2 hp
theorem sub_mem {n : Nat} {ops : List OpM} (hn : n ≤ 8) {p : List Int} : p ∈ subsL ((n : Int), ops) ↔ subB n ops p = true := by
  have e : subsL ((n : Int), ops) = insA (subB n ops) (2 ^ n) := by unfold subsL; simp
  rw [e, insA_mem, selA_mem (pow8 hn)]
  constructor
  · rintro ⟨j, -, -, h⟩; exact h
  · intro h
    have h1 := h
    unfold subB at h1
    rw [Bool.and_eq_true] at h1
    obtain ⟨e1, e2⟩ := bits8_set hn (setB_iff.1 h1.1)
    exact ⟨valB p, e2, e1.symm, h⟩
theorem sub_nodup {n : Nat} {ops : List OpM} (hn : n ≤ 8) : (subsL ((n : Int), ops)).Nodup := by
  have e : subsL ((n : Int), ops) = insA (subB n ops) (2 ^ n) := by unfold subsL; simp
  rw [e]
  exact (insA_srt _ (pow8 hn)).nodup
def mvS (s V : List Int) : List Int := markL s.length fun y => hasI (y : Int) (comp V s)
theorem sub_lenL {n : Nat} {s : List Int} {ops : List OpM} (hn : 0 < n) (h8 : n ≤ 8) (hs : PermL n s) (hops : ∀ o ∈ ops, OpP n o) : (subsL ((n : Int), ops)).length ≤ (subsL ((n : Int), ops.map (renOp n s))).length := by
  have h0 : ∀ V, V ∈ subsL ((n : Int), ops) → InL n V ∧ V.Pairwise (· < ·) := fun V hV => by
    have := (sub_iff hn hops).1 ((sub_mem h8).1 hV)
    exact ⟨this.1, this.2.1⟩
  have h1 : ((subsL ((n : Int), ops)).map (mvS s)).Nodup := List.pairwise_map.2 (List.Pairwise.imp_of_mem (fun {a b} ha hb hab e => hab (rn_inj hs (h0 a ha).1 (h0 b hb).1 (h0 a ha).2 (h0 b hb).2 e)) (sub_nodup h8))
  have h2 := nodup_len h1 fun p hp => by
    obtain ⟨V, hV, rfl⟩ := List.mem_map.1 hp
    exact (sub_mem (ops := ops.map (renOp n s)) h8).2 (sub_ren hn hs hops ((sub_mem h8).1 hV))
  rwa [List.length_map] at h2
theorem sub_lenR {n : Nat} {s : List Int} {ops : List OpM} (hn : 0 < n) (h5 : n ≤ 5) (hs : PermL n s) (hx : SmallP ((n : Int), ops)) : (subsL ((n : Int), ops)).length = (subsL ((n : Int), ops.map (renOp n s))).length := by
  refine Nat.le_antisymm (sub_lenL hn (by omega) hs (ops_ok hx)) ?_
  have := sub_lenL hn (by omega) (inv_perm hs) (ops_ok' hs hx)
  rwa [back_ops hs hx] at this
theorem set_fillC {n : Nat} {s V out : List Int} (hs : PermL n s) (hl : out.length = n) {k : Nat} (hk : k < n) (h : ∀ x, x < k → out[nmAt s x]? = some (V.getD x 0)) : ∀ x, x < k + 1 → (out.set (nmAt s k) (V.getD k 0))[nmAt s x]? = some (V.getD x 0) := fun x hx => by
  rw [List.getElem?_set]
  by_cases e : x = k
  · subst e
    rw [if_pos rfl, if_pos (by rw [hl]; exact nmAt_lt hs hk)]
  · rw [if_neg fun h => e (nmAt_inj hs (by omega) hk h.symm)]
    exact h x (by omega)
theorem fill_doneC {n : Nat} {s V out : List Int} (hs : PermL n s) (hV : V.length = n) (hl : out.length = n) (h : ∀ x, x < n → out[nmAt s x]? = some (V.getD x 0)) : out = comp (inv n s) V := by
  have hil := (inv_perm hs).1
  apply List.ext_getElem?
  intro y
  by_cases hy : y < n
  · obtain ⟨x, hx, rfl⟩ := hs.surj hy
    obtain ⟨v, hv, hvn, hve⟩ := (inv_perm hs).at hy
    rw [inv_s hs hx] at hve
    subst hve
    rw [h x hx]
    unfold comp
    rw [List.getElem?_map, hv]
    show _ = some (nmI V (x : Int))
    unfold nmI
    simp
  · rw [List.getElem?_eq_none (by omega), List.getElem?_eq_none (by unfold comp; rw [List.length_map]; omega)]
end Go.Proofs.YtbkgbckbbnflpaaGreat
