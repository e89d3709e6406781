import Derived.Test.YtbkgbckbbnflpaaQ4
import Derived.Deep.CutBlock
import Derived.StillTactics
import Derived.Laws.BitsAllLaws
set_option linter.unusedVariables false
set_option linter.unusedSimpArgs false
set_option maxRecDepth 100000
set_option maxHeartbeats 32000000
namespace Go.Proofs.Ytbkgbckbbnflpaa
open Go.RowKit
theorem small_algB {x : AlgebraM} (hx : SmallP x) : algB x = true := alg_iff.2 ⟨hx.1, by have h1 := hx.2.1; omega, hx.2.2.1, hx.2.2.2⟩
theorem nil_ne0 (w : World) : Sem.run Try.prog (binOp BinOp.neq 38 (.slice none 0 0) (.slice none 0 0)) w = .ok (.bool false) w := rfl
theorem nil_ne1 (p : Addr) (n c : Nat) (w : World) : Sem.run Try.prog (binOp BinOp.neq 38 (.slice (some p) n c) (.slice none 0 0)) w = .ok (.bool true) w := rfl
theorem sameType_any (cs ds : List Value) (x y : AlgebraM) (w : World) (h : shAlgebra.rd w cs x) (h' : shAlgebra.rd w ds y) (hx : SmallP x) (hy : SmallP y) :
    Calls Try.prog 8 #[.agg cs.toArray, .agg ds.toArray] w fun e w' => e = .returned (.tuple #[.bool (eqL (tyL x.2) (tyL y.2)), .bool true]) ∧ Below w.heap.size w w' := by
  have hrd := h
  have hrd' := h'
  obtain ⟨B, n, c, rfl, qs, qo⟩ := rdAlgebra h
  obtain ⟨D, m, d, rfl, qs', qo'⟩ := rdAlgebra h'
  obtain ⟨w0, hw0, T0, hsz0, BP, BQ⟩ := boxes2 w #[.int .i64 x.1, .slice B n c] #[.int .i64 y.1, .slice D m d] 26 26
  have HW0 := Lib.hid hw0
  have cP0 := BP.cell 0
  have cP1 := BP.cell 1
  have cQ0 := BQ.cell 0
  have cQ1 := BQ.cell 1
  simp at cP0 cP1 cQ0 cQ1
  have hx4 : x.2.length ≤ 1048576 := by have := hx.2.2.1; omega
  have hy4 : y.2.length ≤ 1048576 := by have := hy.2.2.1; omega
  have HA1 := Lib.hid fun (wz : World) (hz : Below w0.heap.size w0 wz) => isAlgebra_any [.int .i64 x.1, .slice B n c] x wz (shAlgebra.stab (shAlgebra.stab hrd T0.block) hz.block)
  have HA2 := Lib.hid fun (wz : World) (hz : Below w0.heap.size w0 wz) => isAlgebra_any [.int .i64 y.1, .slice D m d] y wz (shAlgebra.stab (shAlgebra.stab hrd' T0.block) hz.block)
  rw [small_algB hx] at HA1
  rw [small_algB hy] at HA2
  have HC1 : ∀ wz, Below w0.heap.size w0 wz → Calls Try.prog 37 #[.agg #[.int .i64 x.1, .slice B n c]] wz (fun e w' => ∃ A c, e = .returned (.slice A x.2.length c) ∧ RdL RI w' A x.2.length (tyL x.2) ∧ Below wz.heap.size wz w') := fun wz hz =>
    typeOf_any [.int .i64 x.1, .slice B n c] x wz (shAlgebra.stab (shAlgebra.stab hrd T0.block) hz.block) hx4
  have HC2 : ∀ wz, Below w0.heap.size w0 wz → Calls Try.prog 37 #[.agg #[.int .i64 y.1, .slice D m d]] wz (fun e w' => ∃ A c, e = .returned (.slice A y.2.length c) ∧ RdL RI w' A y.2.length (tyL y.2) ∧ Below wz.heap.size wz w') := fun wz hz =>
    typeOf_any [.int .i64 y.1, .slice D m d] y wz (shAlgebra.stab (shAlgebra.stab hrd' T0.block) hz.block) hy4
  clear hw0 hsz0 h h' qo qo' hx hy hrd hrd' hx4 hy4
  go_enter Try.func8, Try.ntmps8
  go_upto_region 1 with fail
  rw [← HW0.out]
  go_wp2_with fail
  refine (HA1.out _ (Below.refl _ _)).mono ?_
  rintro e w1 ⟨rfl, hb1⟩
  have jP0 := keepc hb1 cP0
  have jP1 := keepc hb1 cP1
  have jQ0 := keepc hb1 cQ0
  have jQ1 := keepc hb1 cQ1
  go_wp2_with fail
  refine (HA2.out _ hb1).mono ?_
  rintro e w2 ⟨rfl, hb2⟩
  have Tk := below_next hb1 hb2 rfl
  clear jP0 jP1 jQ0 jQ1
  have dP0 := keepc Tk cP0
  have dP1 := keepc Tk cP1
  have dQ0 := keepc Tk cQ0
  have dQ1 := keepc Tk cQ1
  go_upto_region 3 with fail
  go_cut [4, 5] (fun v4 v5 wx => v4 = .bool (eqL (tyL x.2) (tyL y.2)) ∧ v5 = .bool true ∧ Below w0.heap.size w0 wx)
  case first =>
    go_region_held3 (fun w' => w'.cell? ⟨w.heap.size, 0, none⟩ = some (.int .i64 x.1) ∧ w'.cell? ⟨w.heap.size, 1, none⟩ = some (.slice B n c) ∧ w'.cell? ⟨w.heap.size + 1, 0, none⟩ = some (.int .i64 y.1) ∧ w'.cell? ⟨w.heap.size + 1, 1, none⟩ = some (.slice D m d)) (first | go_keep | exact ⟨keepc Tk cP0, keepc Tk cP1, keepc Tk cQ0, keepc Tk cQ1⟩) (first
      | (go_at_call 37; (with_reducible refine (HC1 _ ?_).mono ?_); (first | exact Tk | exact Below.drew Tk); rintro e wn ⟨A1, c1, rfl, R1, hbn⟩; (try replace R2 := (by first | exact R2.next stab_RI hbn | exact (R2.drew stab_RI).next stab_RI hbn)); replace Tk := below_next (by first | exact Tk | exact Below.drew Tk) hbn rfl)
      | (go_at_call 37; (with_reducible refine (HC2 _ ?_).mono ?_); (first | exact Tk | exact Below.drew Tk); rintro e wn ⟨A2, c2, rfl, R2, hbn⟩; (try replace R1 := (by first | exact R1.next stab_RI hbn | exact (R1.drew stab_RI).next stab_RI hbn)); replace Tk := below_next (by first | exact Tk | exact Below.drew Tk) hbn rfl)
      | (go_at_call 36; refine (sameList_any _ _ _ _ _ _ _ _ _ (by first | exact R1 | exact R1.drew stab_RI) (by first | exact R2 | exact R2.drew stab_RI)).mono ?_; rintro e wm ⟨rfl, rfl⟩))
    all_goals
      go_wp2_with fail
      go_meet
      exact ⟨rfl, rfl, by first | exact Tk | exact Below.drew Tk⟩
  case rest =>
    obtain ⟨rfl, rfl, hbc⟩ := hcut
    have hT := below_next T0 hbc rfl
    go_wp2_with fail
    go_ret2
    exact ⟨rfl, hT⟩
theorem alike_any (cs ds : List Value) (x y : AlgebraM) (w : World) (h : shAlgebra.rd w cs x) (h' : shAlgebra.rd w ds y) (hx : SmallP x) (hy : SmallP y) :
    Calls Try.prog 68 #[.agg cs.toArray, .agg ds.toArray] w (Bl w (.bool (eqL (tyL x.2) (tyL y.2)))) := by
  have hrd := h
  have hrd' := h'
  obtain ⟨B, n, c, rfl, qs, qo⟩ := rdAlgebra h
  obtain ⟨D, m, d, rfl, qs', qo'⟩ := rdAlgebra h'
  obtain ⟨w0, hw0, T0, hsz0, BP, BQ⟩ := boxes2 w #[.int .i64 x.1, .slice B n c] #[.int .i64 y.1, .slice D m d] 26 26
  have HW0 := Lib.hid hw0
  have cP0 := BP.cell 0
  have cP1 := BP.cell 1
  have cQ0 := BQ.cell 0
  have cQ1 := BQ.cell 1
  simp at cP0 cP1 cQ0 cQ1
  have HS := Lib.hid (sameType_any [.int .i64 x.1, .slice B n c] [.int .i64 y.1, .slice D m d] x y w0 (shAlgebra.stab hrd T0.block) (shAlgebra.stab hrd' T0.block) hx hy)
  clear hw0 hsz0 h h' qo qo' hx hy hrd hrd'
  go_enter Try.func68, Try.ntmps68
  go_upto_region 1 with fail
  rw [← HW0.out]
  go_wp2_with fail
  refine HS.out.mono ?_
  rintro e w1 ⟨rfl, hb1⟩
  go_wp2_with fail
  go_ret
  exact ⟨rfl, below_next T0 hb1 rfl⟩
theorem areAlike_any (cs ds : List Value) (x y : AlgebraM) (w : World) (h : shAlgebra.rd w cs x) (h' : shAlgebra.rd w ds y) (hx : SmallP x) (hy : SmallP y) :
    Calls Try.prog 38 #[.agg cs.toArray, .agg ds.toArray] w (Bl w (.bool (eqL (tyL x.2) (tyL y.2)))) := by
  have hrd := h
  have hrd' := h'
  obtain ⟨B, n, c, rfl, qs, qo⟩ := rdAlgebra h
  obtain ⟨D, m, d, rfl, qs', qo'⟩ := rdAlgebra h'
  obtain ⟨w0, hw0, T0, hsz0, BP, BQ⟩ := boxes2 w #[.int .i64 x.1, .slice B n c] #[.int .i64 y.1, .slice D m d] 26 26
  have HW0 := Lib.hid hw0
  have cP0 := BP.cell 0
  have cP1 := BP.cell 1
  have cQ0 := BQ.cell 0
  have cQ1 := BQ.cell 1
  simp at cP0 cP1 cQ0 cQ1
  have HA1 := Lib.hid fun (wz : World) (hz : Below w0.heap.size w0 wz) => isAlgebra_any [.int .i64 x.1, .slice B n c] x wz (shAlgebra.stab (shAlgebra.stab hrd T0.block) hz.block)
  have HA2 := Lib.hid fun (wz : World) (hz : Below w0.heap.size w0 wz) => isAlgebra_any [.int .i64 y.1, .slice D m d] y wz (shAlgebra.stab (shAlgebra.stab hrd' T0.block) hz.block)
  rw [small_algB hx] at HA1
  rw [small_algB hy] at HA2
  have HS := Lib.hid fun (wz : World) (hz : Below w0.heap.size w0 wz) => alike_any [.int .i64 x.1, .slice B n c] [.int .i64 y.1, .slice D m d] x y wz (shAlgebra.stab (shAlgebra.stab hrd T0.block) hz.block) (shAlgebra.stab (shAlgebra.stab hrd' T0.block) hz.block) hx hy
  clear hw0 hsz0 h h' qo qo' hx hy hrd hrd'
  go_enter Try.func38, Try.ntmps38
  go_upto_region 1 with fail
  rw [← HW0.out]
  go_wp2_with fail
  refine (HA1.out _ (Below.refl _ _)).mono ?_
  rintro e w1 ⟨rfl, hb1⟩
  have jP0 := keepc hb1 cP0
  have jP1 := keepc hb1 cP1
  have jQ0 := keepc hb1 cQ0
  have jQ1 := keepc hb1 cQ1
  go_wp2_with fail
  refine (HA2.out _ hb1).mono ?_
  rintro e w2 ⟨rfl, hb2⟩
  have T2 := below_next hb1 hb2 rfl
  clear jP0 jP1 jQ0 jQ1
  have jP0 := keepc T2 cP0
  have jP1 := keepc T2 cP1
  have jQ0 := keepc T2 cQ0
  have jQ1 := keepc T2 cQ1
  go_wp2_with fail
  refine (HS.out _ T2).mono ?_
  rintro e w3 ⟨rfl, hb3⟩
  have T3 := below_next T0 (below_next T2 hb3 rfl) rfl
  clear jP0 jP1 jQ0 jQ1
  go_wp2_with fail
  go_ret
  exact ⟨rfl, T3⟩
def isS (x y : AlgebraM) : SrS := find x.1.toNat x.2 y.2 1
def isoB (s : SrS) : Bool := decide (s.1 ≤ 5000) && decide (0 < s.2.length)
theorem implIso_any (cs ds : List Value) (x y : AlgebraM) (w : World) (h : shAlgebra.rd w cs x) (h' : shAlgebra.rd w ds y) (hx : SmallP x) (hy : SmallP y) (hxy : x.1 = y.1) (ht : eqL (tyL x.2) (tyL y.2) = true) :
    Calls Try.prog 9 #[.agg cs.toArray, .agg ds.toArray] w fun e w' => e = .returned (.tuple #[.bool (isoB (isS x y)), .bool (decide ((isS x y).1 ≤ 5000))]) ∧ Below w.heap.size w w' := by
  obtain ⟨n, hn⟩ : ∃ n : Nat, x.1 = (n : Int) := ⟨x.1.toNat, by have h1 := hx.1; omega⟩
  have hnn : x.1.toNat = n := by omega
  have hn' : y.1 = (n : Int) := by rw [← hxy]; exact hn
  have hty : tyL x.2 = tyL y.2 := eqL_iff.1 ht
  have H := alk_of hx hy hxy hty
  rw [hnn] at H
  have HAS : Hid (isS x y = find n x.2 y.2 1) := by show _ = _; unfold isS; rw [hnn]
  rw [HAS.out]
  have hn8 : n ≤ 8 := by have h1 := hx.2.1; omega
  have hrd := h
  have hrd' := h'
  obtain ⟨B, m, d, rfl, qs, qo⟩ := rdAlgebra h
  obtain ⟨D, m', d', rfl, qs', qo'⟩ := rdAlgebra h'
  rw [hn] at hrd ⊢
  rw [hn'] at hrd' ⊢
  obtain ⟨w0, hw0, T0, hsz0, BP, BQ⟩ := boxes2 w #[.int .i64 (n : Int), .slice B m d] #[.int .i64 (n : Int), .slice D m' d'] 26 26
  have HW0 := Lib.hid hw0
  have cP0 := BP.cell 0
  have cP1 := BP.cell 1
  have cQ0 := BQ.cell 0
  have cQ1 := BQ.cell 1
  simp at cP0 cP1 cQ0 cQ1
  have HA := Lib.hid (areAlike_any _ _ x y w0 (shAlgebra.stab hrd T0.block) (shAlgebra.stab hrd' T0.block) hx hy)
  rw [ht] at HA
  have HX := Lib.hid fun (wz : World) (hz : Below w0.heap.size w0 wz) => firstHom_any x y n B D m d m' d' wz (shAlgebra.stab (shAlgebra.stab hrd T0.block) hz.block) (shAlgebra.stab (shAlgebra.stab hrd' T0.block) hz.block) H hn hn' hn8 hx.2.2.1
  obtain ⟨S, HSS⟩ : ∃ S, Hid (find n x.2 y.2 1 = S) := ⟨_, Lib.hid rfl⟩
  rw [HSS.out] at HX ⊢
  obtain ⟨bo, HBO⟩ : ∃ z, Hid (decide (S.1 ≤ 5000) = z) := ⟨_, Lib.hid rfl⟩
  have HIB : Hid (isoB S = (bo && decide (0 < S.2.length))) := by show _ = _; unfold isoB; rw [HBO.out]
  rw [HIB.out]
  rw [HBO.out] at HX ⊢
  have hne : ((n : Int) != (n : Int)) = false := by simp
  clear hw0 hsz0 h h' hrd hrd' qs qo qs' qo' hx hy hxy H hn hn' ht hty
  go_enter Try.func9, Try.ntmps9
  go_upto_region 1 with fail
  rw [← HW0.out]
  go_wp2_with fail
  refine HA.out.mono ?_
  rintro e w1 ⟨rfl, hb1⟩
  have jP0 := keepc hb1 cP0
  have jP1 := keepc hb1 cP1
  have jQ0 := keepc hb1 cQ0
  have jQ1 := keepc hb1 cQ1
  clear cP0 cP1 cQ0 cQ1 HA
  go_wp2_with fail
  refine (HX.out _ hb1).mono ?_
  rintro e w2 ⟨v, rfl, h1, h2, hb2⟩
  have T2 := below_next (below_next T0 hb1 rfl) hb2 rfl
  rcases hS : S.2 with _ | ⟨p, l⟩
  · have hv := h1 hS
    subst hv
    rcases bo with _ | _
    · have he := nil_ne0
      go_wp2_with fail
      go_ret2
      exact ⟨by simp [hS], T2⟩
    · have he := nil_ne0
      go_wp2_with fail
      go_ret2
      exact ⟨by simp [hS], T2⟩
  · obtain ⟨a, k, z, hv⟩ := h2 (by rw [hS]; simp)
    subst hv
    rcases bo with _ | _
    · have he := nil_ne1
      go_wp2_with fail
      go_ret2
      exact ⟨by simp [hS], T2⟩
    · have he := nil_ne1
      go_wp2_with fail
      go_ret2
      exact ⟨by simp [hS], T2⟩
theorem placeF_mem (p : List Int) : ∀ (l : List (List Int)) (k : Int), 0 ≤ k → (0 ≤ placeFrom p l k ↔ p ∈ l)
  | [], k, _ => by simp [placeFrom]
  | q :: l, k, hk => by
    rw [placeFrom]
    rcases e : eqL p q with _ | _
    · rw [if_neg (by simp), placeF_mem p l (k + 1) (by omega), List.mem_cons]
      exact ⟨.inr, fun h => h.resolve_left fun h => by rw [eqL_iff.2 h] at e; cases e⟩
    · rw [if_pos rfl, eqL_iff.1 e]
      simp [hk]
theorem place_mem {p : List Int} {xss : List (List Int)} : 0 ≤ place xss p ↔ p ∈ xss := placeF_mem p xss 0 (Int.le_refl _)
noncomputable def ccL (x : AlgebraM) (l : List (List Int)) : List (List Int) := once (fun p => codeL (ren x p).2) l
noncomputable def ccM (x : AlgebraM) : Int := if smallB x then ((ccL x (ords x.1.toNat x.1.toNat [])).length : Int) else 0
theorem ccL_snoc (x : AlgebraM) (l : List (List Int)) (p : List Int) : ccL x (l ++ [p]) = if 0 ≤ place (ccL x l) (codeL (ren x p).2) then ccL x l else ccL x l ++ [codeL (ren x p).2] := by
  unfold ccL
  rw [once_snoc]
  rcases e : ((once (fun p => codeL (ren x p).2) l).any fun c => eqC c (codeL (ren x p).2)) with _ | _
  · rw [if_neg (by simp), if_neg]
    intro h
    rw [any_eqC.2 (place_mem.1 h)] at e
    cases e
  · rw [if_pos rfl, if_pos]
    exact place_mem.2 (any_eqC.1 e)
theorem ccL_len (x : AlgebraM) (l : List (List Int)) : (ccL x l).length ≤ l.length := by
  have h := once_iff (fun p => codeL (ren x p).2) l
  have := nodup_sub' (m := l.map fun p => codeL (ren x p).2) h.1 fun c hc => List.mem_map.2 ((h.2 c).1 hc)
  rwa [List.length_map] at this
theorem facN_le {n : Nat} (h : n ≤ 5) : facN n ≤ 120 := by
  have : ∀ k : Fin 6, facN k.val ≤ 120 := by decide
  exact this ⟨n, by omega⟩
theorem cc_quo {x : AlgebraM} (hx : SmallP x) {n : Nat} (hn : x.1.toNat = n) : 0 < (symL x (ords n n [])).length ∧ wrap64 ((facN n : Int) / ((symL x (ords n n [])).length : Int)) = ((ccL x (ords n n [])).length : Int) := by
  subst hn
  have h1 := copies hx
  have h5 : x.1.toNat ≤ 5 := by have := hx.2.1; omega
  rw [ords_fac h5] at h1
  have h2 : upTo x.1.toNat ∈ symL x (ords x.1.toNat x.1.toNat []) := List.mem_filter.2 ⟨ords_mem.2 (upTo_perm _), eqC_iff.2 (ren_up hx)⟩
  have h3 := List.length_pos_of_mem h2
  refine ⟨h3, ?_⟩
  have e : (facN x.1.toNat : Int) = ((ccL x (ords x.1.toNat x.1.toNat [])).length : Int) * ((symL x (ords x.1.toNat x.1.toNat [])).length : Int) := by rw [h1]; exact Int.natCast_mul _ _
  have h6 : (ccL x (ords x.1.toNat x.1.toNat [])).length ≤ 4096 := Nat.le_trans (ccL_len _ _) (by rw [ords_fac h5]; have := facN_le h5; omega)
  rw [e, Int.mul_ediv_cancel _ (by omega)]
  exact IntWalk.wrap64_in _ ⟨by omega, by omega⟩
theorem implCC_any (cs : List Value) (x : AlgebraM) (w : World) (h : shAlgebra.rd w cs x) :
    Calls Try.prog 13 #[.agg cs.toArray] w (Bl w (.tuple #[.int .i64 (ccM x), .bool (smallB x)])) := by
  have hrd := h
  obtain ⟨B, m, d, rfl, qs, qo⟩ := rdAlgebra h
  obtain ⟨w0, hw0, T0, hsz0, BP⟩ := boxes1 w #[.int .i64 x.1, .slice B m d] 26
  have HW0 := Lib.hid hw0
  clear hw0
  obtain ⟨r, hr⟩ : ∃ r, smallB x = r := ⟨_, rfl⟩
  have HM : Hid (ccM x = if r then ((ccL x (ords x.1.toNat x.1.toNat [])).length : Int) else 0) := by show _ = _; unfold ccM; rw [hr]
  have HS := Lib.hid hr
  rw [hr]
  clear hr
  go_enter Try.func13, Try.ntmps13
  go_wp2_with fail
  rw [← HW0.out]
  refine (isNamed_any _ x _ (shAlgebra.stab hrd T0.block)).mono ?_
  rintro e w1 ⟨rfl, hb1⟩
  rw [HS.out]
  have T1 := below_next T0 hb1 rfl
  have BP1 := BP.next hb1
  have cP0 := BP1.cell 0
  have cP1 := BP1.cell 1
  simp at cP0 cP1
  rcases r with _ | _
  · have HM0 : Hid (ccM x = 0) := by show _ = _; rw [HM.out]; rfl
    go_wp2_with fail
    go_ret2
    rw [HM0.out]
    exact ⟨rfl, T1⟩
  · have hx := small_iff.1 HS.out
    obtain ⟨n, hn⟩ : ∃ n : Nat, x.1 = (n : Int) := ⟨x.1.toNat, by have h1 := hx.1; omega⟩
    have hn1 : 1 ≤ n := by have h1 := hx.1; omega
    have hn5 : n ≤ 5 := by have h1 := hx.2.1; omega
    have hnn : x.1.toNat = n := by omega
    have HM0 : Hid (ccM x = ((ccL x (ords n n [])).length : Int)) := by show _ = _; rw [HM.out, hnn]; rfl
    have HQ := Lib.hid (cc_quo hx hnn)
    have HSY : Hid (Calls Try.prog 41 #[.agg #[.int .i64 (n : Int), .slice B m d]] w1 (OwSS w1 (symL x (ords n n [])))) := by
      have := symmetries_any [.int .i64 x.1, .slice B m d] x w1 (shAlgebra.stab hrd T1.block) hx
      rw [hnn, hn] at this
      exact this
    rw [hn] at cP0
    clear hn hnn HM hx
    go_wp2_with fail
    go_loop [4, 5] (fun a i => ∃ k : Nat, 1 ≤ k ∧ k ≤ n ∧ i = .int .i64 ((k : Int) + 1) ∧ a = .int .i64 (facN k)) (fun _ i => n + 1 - (intOf i).toNat)
    case atStart => exact ⟨1, by omega, hn1, rfl, rfl⟩
    case round =>
      obtain ⟨k, hk1, hk2, rfl, rfl⟩ := hrel
      have hf := facN_le (n := k) (by omega)
      by_cases hlt : k < n
      · have hf2 := facN_le (n := k + 1) (by omega)
        have HF : Hid ((facN (k + 1) : Int) = (facN k : Int) * ((k : Int) + 1)) := by show _ = _; rw [facN]; simp
        have hb1 : (facN k : Int) * ((k : Int) + 1) ≤ 120 := by rw [← HF.out]; omega
        have hb0 : 0 ≤ (facN k : Int) * ((k : Int) + 1) := by rw [← HF.out]; omega
        have hw : wrap64 ((facN k : Int) * ((k : Int) + 1)) = (facN k : Int) * ((k : Int) + 1) := IntWalk.wrap64_in _ ⟨by omega, by omega⟩
        have hle : (k : Int) + 1 ≤ (n : Int) := by omega
        go_wp2_with fail
        go_round
        case rel => exact ⟨k + 1, by omega, by omega, by go_num, by rw [HF.out]⟩
        case measure => simp [intOf]; omega
      · obtain rfl : k = n := by omega
        have hle : ¬ (k : Int) + 1 ≤ (k : Int) := by omega
        go_wp2_with fail
        refine HSY.out.mono ?_
        rintro e w2 ⟨A, c, vs, rfl, -, hb2⟩
        have T2 := below_next T1 hb2 rfl
        obtain ⟨S, HSd⟩ : ∃ S, Hid ((symL x (ords k k [])).length = S) := ⟨_, rfl⟩
        rw [HSd.out] at HQ ⊢
        have hS0 : 0 < (S : Int) := by have := HQ.out.1; omega
        have hS1 : (S : Int) ≤ 9223372036854775807 := by
          rw [← HSd.out]
          have h1 := List.length_filter_le (symF x) (ords k k [])
          have h2 := Nat.le_trans (ords_len k []) (pow5 hn5 hn5)
          have h3 : (symL x (ords k k [])).length ≤ 3125 := Nat.le_trans h1 h2
          omega
        have HQ2 := Lib.hid HQ.out.2
        clear HQ
        go_wp2_with fail
        go_ret2
        rw [HM0.out]
        refine ⟨?_, T2⟩
        show Ending.returned (.tuple #[.int .i64 (wrap64 ((facN k : Int) / (S : Int))), .bool true]) = _
        rw [HQ2.out]
def CodeS (w : World) (L : List Int) (v : Value) (w' : World) : Prop := ∃ A c, v = .slice A L.length c ∧ w'.ownsRow w.heap.size 3 1 (.slice A L.length c) L.length (ints L) ∧ Below w.heap.size w w'
theorem specCC_any (cs : List Value) (x : AlgebraM) (w : World) (h : shAlgebra.rd w cs x) :
    Calls Try.prog 14 #[.agg cs.toArray] w (Bl w (.tuple #[.int .i64 (ccM x), .bool (smallB x)])) := by
  have hrd := h
  obtain ⟨B, m, d, rfl, qs, qo⟩ := rdAlgebra h
  obtain ⟨w0, hw0, T0, hsz0, BP⟩ := boxes1 w #[.int .i64 x.1, .slice B m d] 26
  have HW0 := Lib.hid hw0
  clear hw0
  obtain ⟨r, hr⟩ : ∃ r, smallB x = r := ⟨_, rfl⟩
  have HM : Hid (ccM x = if r then ((ccL x (ords x.1.toNat x.1.toNat [])).length : Int) else 0) := by show _ = _; unfold ccM; rw [hr]
  have HS := Lib.hid hr
  rw [hr]
  clear hr
  go_enter Try.func14, Try.ntmps14
  go_wp2_with fail
  rw [← HW0.out]
  refine (l31Takes_any _ x _ (shAlgebra.stab hrd T0.block)).mono ?_
  rintro e w1 ⟨rfl, hb1⟩
  rw [HS.out]
  have T1 := below_next T0 hb1 rfl
  have hlow1 := T1.size
  replace BP := BP.next hb1
  have cP0 := BP.cell 0
  have cP1 := BP.cell 1
  simp at cP0 cP1
  rcases r with _ | _
  · have HM0 : Hid (ccM x = 0) := by show _ = _; rw [HM.out]; rfl
    go_wp2_with fail
    go_ret2
    rw [HM0.out]
    exact ⟨rfl, T1⟩
  · have hx := small_iff.1 HS.out
    have HX := Lib.hid hx
    obtain ⟨n, hn⟩ : ∃ n : Nat, x.1 = (n : Int) := ⟨x.1.toNat, by have h1 := hx.1; omega⟩
    have hn5 : n ≤ 5 := by have h1 := hx.2.1; omega
    have HNN : Hid (x.1.toNat = n) := by show _ = _; omega
    obtain ⟨AL, HAL⟩ : ∃ AL, Hid (ords n n [] = AL) := ⟨_, rfl⟩
    have HM0 : Hid (ccM x = ((ccL x AL).length : Int)) := by show _ = _; rw [HM.out, HNN.out, HAL.out]; rfl
    have HALL : Hid (∀ p ∈ AL, PermL n p) := by have := all_perm (x := x); rw [HNN.out, HAL.out] at this; exact this
    have hALlen : AL.length ≤ 3125 := by rw [← HAL.out]; exact Nat.le_trans (ords_len n []) (pow5 hn5 hn5)
    rw [hn] at hrd cP0 qs BP
    obtain ⟨w2, hw2, T2, hsz2, -⟩ := boxes1 w1 #[] 38
    have HW2 : Hid (_ = w2) := hw2.symm
    have ho2 : w2.ownsRow w.heap.size 38 1 (.slice (some ⟨w1.heap.size, 0, none⟩) 0 0) 0 [] := by rw [hw2]; exact World.ownsRow_lit _ _ _ hlow1 (Nat.zero_le _) rfl
    replace BP := BP.next T2
    have cQ0 := BP.cell 0
    have cQ1 := BP.cell 1
    simp at cQ0 cQ1
    have T2w := below_next T1 T2 rfl
    obtain ⟨w3, hw3, T3, hsz3, -⟩ := boxes1 w2 #[] 3
    have HW3 : Hid (_ = w3) := hw3.symm
    have R3 : RdL RI w3 (some ⟨w2.heap.size, 0, none⟩) 0 [] := RdL.nil _ _ _
    have HNM : Hid (Calls Try.prog 42 #[.int .i64 n, .slice (some ⟨w2.heap.size, 0, none⟩) 0 0] w3 (NmE w3 AL)) := by
      have := l31Names_any n hn5 n _ 0 0 [] w3 R3 (Nat.zero_add _)
      rw [HAL.out] at this
      exact this
    have T3w := below_next T2w T3 rfl
    replace BP := BP.next T3
    have ho3 := own_next ho2 T3
    clear hw2 hw3 hsz3 R3 hx h ho2
    rw [hsz2] at HNM
    have hwl : w.heap.size < w1.heap.size := by have := hb1.size; omega
    go_wp2_with fail
    rw [HW2.out, HW3.out]
    refine HNM.out.mono ?_
    rintro e w4 ⟨A4, c4, ts, rfl, hoT, hRT, hb4⟩
    have T4 := below_next T3w hb4 rfl
    replace BP := BP.next hb4
    have ho4 := own_next ho3 hb4
    have R4 := raw_rd hoT
    have hlit : w1.heap.size < w3.heap.size := by have := T3.size; omega
    have HDT : Hid (∀ b ∈ obl (.slice A4 AL.length c4), w3.heap.size ≤ b) := fun b hb => (hoT.lt b (mem_obl.1 hb)).1
    obtain ⟨lc, hlc⟩ : ∃ l, w1.heap.size = l := ⟨_, rfl⟩
    have hlit4 : ∃ cur fr, w4.heap[lc]? = some (.cells cur 38 fr) := by rw [← hlc]; exact row_blk ho4 (mem_obl.2 rfl)
    have HLIT := Lib.hid hlit4
    rw [hlc] at ho4
    have HLC := Lib.hid hlc
    have HLC3 : Hid (lc < w3.heap.size ∧ lc ≠ w.heap.size ∧ w.heap.size ≤ lc) := ⟨by omega, by omega, by omega⟩
    clear hoT HNM hlit4 hlit ho3 hlc hwl
    go_wp2_with fail
    go_loopw [4, 6] (fun v i wr => ∃ (k : Nat) (A : Option Addr) (c : Nat) (vs : List Value), k ≤ AL.length ∧ i = .int .i64 k ∧ v = .slice A (ccL x (AL.take k)).length c ∧ OwMv 38 3 (.int .i64) w.heap.size wr (.slice A (ccL x (AL.take k)).length c) (ccL x (AL.take k)).length vs (ccL x (AL.take k)) ∧ ChgB [lc] w4 wr ∧ (∀ b ∈ obl (.slice A (ccL x (AL.take k)).length c), b = lc ∨ w4.heap.size ≤ b)) (fun _ i _ => AL.length - (intOf i).toNat)
    case atStart => exact ⟨0, some ⟨lc, 0, none⟩, 0, [], Nat.zero_le _, rfl, by rw [← HLC.out]; rfl, OwMv.empty _ _ ho4, ChgB.refl _ _, fun b hb => .inl (by simpa [obl, Value.ownBlock] using hb)⟩
    case round =>
      obtain ⟨k, A, c, vs, hk, rfl, rfl, hO, hC, hob⟩ := hrel
      have hul : (ccL x (AL.take k)).length ≤ 4096 := by
        have h1 := ccL_len x (AL.take k)
        have h2 : (AL.take k).length ≤ k := List.length_take_le _ _
        omega
      by_cases hlt : k < AL.length
      · have hk0 : (0 : Int) ≤ (k : Int) := by omega
        have hkl : (k : Int) < (AL.length : Int) := by omega
        obtain ⟨b2, o2, v2, t, hA4, hcp, hv2, -, htk⟩ := R4.at hlt
        subst hA4
        obtain ⟨Ap, mp, cp⟩ := t
        obtain rfl : v2 = .slice Ap mp cp := hv2
        have hb2 : b2 ≠ lc := fun e => by
          have h1 := HDT.out b2 (mem_obl.2 rfl)
          have h2 := HLC3.out.1
          omega
        have BPr : Blk wr w.heap.size 26 #[.int .i64 (n : Int), .slice B m d] := (hC.block _ BP.lt (by have := HLC3.out.2.1; simp; omega)).trans BP
        have hcr : wr.cell? ⟨b2, o2 + k, none⟩ = some (.slice Ap mp cp) := (World.cell?_of_block (w := w4) (w' := wr) (a := ⟨b2, o2 + k, none⟩) (hC.block b2 (cell_lt hcp) (by simpa using hb2))).trans hcp
        have hRr : Rws wr ts AL := hRT.same fun b cur fr hc => hC.block b (Array.getElem?_eq_some_iff.1 hc).1 (by
          obtain ⟨cur2, fr2, hc2⟩ := HLIT.out
          intro hb
          rw [List.mem_singleton] at hb
          subst hb
          rw [hc2] at hc
          injection hc with hc
          injection hc with _ h5
          exact absurd h5 (by decide))
        obtain ⟨p, hxp⟩ : ∃ p, AL[k]? = some p := ⟨_, List.getElem?_eq_getElem hlt⟩
        obtain ⟨rp, hpb⟩ := hRr.2 k _ p htk hxp
        replace rp : RdL RI wr Ap mp p := rp
        have hpm := HALL.out p (List.mem_of_getElem? hxp)
        obtain rfl : n = mp := by rw [← rp.len]; exact hpm.1.symm
        have hpmx : PermL x.1.toNat p := by rw [HNN.out]; exact hpm
        have HNX : Hid (ccL x (AL.take (k + 1)) = if 0 ≤ place (ccL x (AL.take k)) (codeL (ren x p).2) then ccL x (AL.take k) else ccL x (AL.take k) ++ [codeL (ren x p).2]) := by show _ = _; rw [take_snoc hxp, ccL_snoc]
        have hTw : Below w.heap.size w wr := ⟨hC.os.trans T4.os, hC.tape.trans T4.tape, hC.output.trans T4.output, Nat.le_trans T4.size hC.size, fun b hb => (hC.block b (by have := T4.size; omega) (by have := HLC3.out.2.2; simp; omega)).trans (T4.block b hb)⟩
        have hrr := shAlgebra.stab hrd hTw.block
        obtain ⟨L, HL⟩ : ∃ L, Hid (ccL x (AL.take k) = L) := ⟨_, rfl⟩
        obtain ⟨cd, HCD⟩ : ∃ cd, Hid (codeL (ren x p).2 = cd) := ⟨_, rfl⟩
        rw [HL.out] at hO hob hul HNX ⊢
        rw [HCD.out] at HNX
        have HC1 : ∀ wz, Below wr.heap.size wr wz → Calls Try.prog 28 #[.agg #[.int .i64 (n : Int), .slice B m d], .slice Ap n cp] wz (AlgE wz (ren x p)) := fun wz hz => by
          have := l2Rename_any [.int .i64 (n : Int), .slice B m d] x Ap n cp p wz (shAlgebra.stab hrr hz.block) (rp.next stab_RI hz) HX.out hpmx
          exact this
        have HC2 : ∀ wz v css bls, Below wr.heap.size wr wz → PO 0 wz v (ren x p).2 css bls → Calls Try.prog 44 #[.agg #[.int .i64 (ren x p).1, v]] wz (fun e w' => ∃ v', e = .returned v' ∧ CodeS wz cd v' w') := fun wz v css bls hz hp => by
          have := l31Code_any [.int .i64 (ren x p).1, v] (ren x p) wz (hp.alg (show InR x.1 from small_R HX.out)) (by have := small_ops (ren_small hpmx HX.out); show 0 + ((ren x p).2.length + cntS shOp.cnt (ren x p).2) ≤ _; omega)
          refine this.mono fun e w' ⟨A', c', h1, h2, h3⟩ => ⟨_, h1, A', c', ?_⟩
          rw [HCD.out] at h2
          exact ⟨by rw [HCD.out], h2, h3⟩
        have HCR : Hid (∀ y ∈ cd, InR y) := by show ∀ y ∈ cd, InR y; rw [← HCD.out]; exact code_R (ren_small hpmx HX.out)
        have Tk : Below wr.heap.size wr wr := Below.refl _ _
        have cP0 := BPr.cell 0
        have cP1 := BPr.cell 1
        simp at cP0 cP1
        clear hxp hpmx hcp
        go_upto_region 8 with fail
        go_cut [7] from 16 to 36 (fun v7 wx => ∃ wz, Below wr.heap.size wr wz ∧ CodeS wz cd v7 wx)
        case first =>
          go_region_held3 (fun w' => w'.cell? ⟨w.heap.size, 0, none⟩ = some (.int .i64 (n : Int)) ∧ w'.cell? ⟨w.heap.size, 1, none⟩ = some (.slice B m d) ∧ w'.cell? ⟨b2, o2 + k, none⟩ = some (.slice Ap n cp)) (first | go_keep | exact ⟨keepc Tk cP0, keepc Tk cP1, keepc Tk hcr⟩) (first
            | (go_at_call 28; (with_reducible refine (HC1 _ ?_).mono ?_); (first | exact Tk | exact Below.drew Tk); rintro e wn ⟨vv, css, bls, rfl, hPn, hbn⟩; replace Tk := below_next (by first | exact Tk | exact Below.drew Tk) hbn rfl)
            | (go_at_call 44; refine (HC2 _ _ _ _ (by first | exact Tk | exact Below.drew Tk) (by first | exact hPn.mono (Nat.zero_le _) | exact (hPn.mono (Nat.zero_le _)).next (Below.drew (Below.refl _ _)))).mono ?_; rintro e wm ⟨v', rfl, hcs⟩; obtain ⟨AK, cK, rfl, hoK, hbK⟩ := hcs; have TK0 := Tk; replace Tk := below_next (by first | exact Tk | exact Below.drew Tk) hbK rfl))
          all_goals
            have HK := Lib.hid (And.intro hoK hbK)
            clear hoK hbK
            go_wp2_with fail
            go_meet
            first
              | exact ⟨_, TK0, AK, cK, rfl, HK.out.1, HK.out.2⟩
              | exact ⟨_, Below.drew TK0, AK, cK, rfl, HK.out.1, HK.out.2⟩
        case rest =>
          obtain ⟨wz, hTz, AK, cK, rfl, hoK, hbK⟩ := hcut
          obtain ⟨w5, HWC⟩ : ∃ wq : World, wq = wc := ⟨_, rfl⟩
          subst HWC
          have T5 := below_next hTz hbK rfl
          have hu5 : w5.ownsRow wr.heap.size 3 1 (.slice AK cd.length cK) cd.length (ints cd) := own_mono hoK hTz.size
          have HLR : Hid (∀ q ∈ L, ∀ y ∈ q, RI w5 (.int .i64 y) y) := by
            show ∀ q ∈ L, ∀ y ∈ q, RI w5 (.int .i64 y) y
            intro q hq y hy
            rw [← HL.out] at hq
            obtain ⟨p', hp', e'⟩ := ((once_iff (fun p => codeL (ren x p).2) (AL.take k)).2 q).1 hq
            have e2 : codeL (ren x p').2 = q := e'
            have hpm' : PermL x.1.toNat p' := by rw [HNN.out]; exact HALL.out p' (List.mem_of_mem_take hp')
            rw [← e2] at hy
            exact ⟨rfl, code_R (ren_small hpm' HX.out) y hy⟩
          have RL5 := (hO.next T5).own.rd (R := RI) HLR.out
          have RC5 := rd_of_own (R := RI) hu5 (RI_ints HCR.out)
          have hlo : w.heap.size ≤ wr.heap.size := hTw.size
          have HC5 := Lib.hid hC
          have hob5 := Lib.hid hob
          have hlo5 : w.heap.size ≤ w5.heap.size := by have := T5.size; omega
          clear cP0 cP1 hcr Tk HC1 HC2 hob hoK hbK hTz hC
          by_cases hpl : 0 ≤ place L cd
          · have hpl' : ¬ place L cd < 0 := by omega
            have HN2 : Hid (ccL x (AL.take (k + 1)) = L) := by show _ = _; rw [HNX.out, if_pos hpl]
            go_wp2_with fail
            refine (bl_of_quiet (l12Place_any _ _ _ _ _ _ L cd _ RL5 RC5)).mono ?_
            rintro e w6 ⟨rfl, hb6⟩
            have T6 := below_next T5 hb6 rfl
            go_wp2_with fail
            go_roundw
            case rel => exact ⟨k + 1, A, c, vs, by omega, by go_num, by rw [HN2.out], by rw [HN2.out]; exact hO.next T6, HC5.out.trans (ChgB.ofBelow T6), by rw [HN2.out]; exact hob5.out⟩
            case measure => simp [intOf]; omega
          · have hpl' : place L cd < 0 := by omega
            have HN2 : Hid (ccL x (AL.take (k + 1)) = L ++ [cd]) := by show _ = _; rw [HNX.out, if_neg hpl]
            go_wp2_with fail
            refine (bl_of_quiet (l12Place_any _ _ _ _ _ _ L cd _ RL5 RC5)).mono ?_
            rintro e w6 ⟨rfl, hb6⟩
            have T6 := below_next T5 hb6 rfl
            have hlo6 : w.heap.size ≤ w6.heap.size := by have := T6.size; omega
            obtain ⟨hvs, HPU⟩ := hO.push T6 hlo (own_next hu5 hb6)
            clear hu5
            go_wp2_with (at_builtin; refine app1y w6 rfl _ _ rfl w.heap.size L.length c A vs rfl hvs (.slice AK cd.length cK) rfl rfl (by omega) hlo6 ?_; intro A8 c8 w8 hown8 hg8 hf8)
            go_roundw
            case rel => exact ⟨k + 1, A8, c8, vs ++ [.slice AK cd.length cK], by omega, by go_num, by rw [HN2.out, List.length_append]; rfl, by rw [HN2.out, List.length_append]; exact HPU hown8 hg8, (HC5.out.trans (ChgB.ofBelow T6)).trans2b (ChgB.grown hg8) hob5.out, fun b hb => by
              rw [HN2.out, List.length_append] at hb
              rcases hf8 b hb with h1 | h1
              · exact hob5.out b h1
              · exact .inr (Nat.le_trans (HC5.out.trans (ChgB.ofBelow T6)).size h1)⟩
            case measure => simp [intOf]; omega
      · obtain rfl : k = AL.length := by omega
        have hlt' : ¬ (AL.length : Int) < (AL.length : Int) := by omega
        have hTw : Below w.heap.size w wr := ⟨hC.os.trans T4.os, hC.tape.trans T4.tape, hC.output.trans T4.output, Nat.le_trans T4.size hC.size, fun b hb => (hC.block b (by have := T4.size; omega) (by have := HLC3.out.2.2; simp; omega)).trans (T4.block b hb)⟩
        have HM1 : Hid (ccM x = ((ccL x (AL.take AL.length)).length : Int)) := by show _ = _; rw [HM0.out, List.take_length]
        clear hO hob
        go_wp2_with fail
        go_ret2
        first
          | (rw [HM0.out]; exact ⟨rfl, hTw⟩)
          | (rw [HM1.out]; exact ⟨rfl, hTw⟩)
noncomputable def reB (x : AlgebraM) (s : List Int) : Bool := algB x && permB x.1.toNat s
noncomputable def reM (x : AlgebraM) (s : List Int) : AlgebraM := if reB x s then ren x s else (0, [])
theorem implRE_any (cs : List Value) (x : AlgebraM) (N : Option Addr) (k c : Nat) (s : List Int) (w : World) (h : shAlgebra.rd w cs x) (hs : RdL RI w N k s) :
    Calls Try.prog 20 #[.agg cs.toArray, .slice N k c] w (OwA shAlgebra w (reM x s) (reB x s)) := by
  have hrd := h
  obtain ⟨B, m, d, rfl, qs, qo⟩ := rdAlgebra h
  obtain ⟨w0, hw0, T0, hsz0, BP, BR⟩ := boxes2 w #[.int .i64 x.1, .slice B m d] #[.int .i64 0, .slice none 0 0] 26 26
  have HW0 := Lib.hid hw0
  have cP0 := BP.cell 0
  have cP1 := BP.cell 1
  simp at cP0 cP1
  have hs0 := hs.next stab_RI T0
  have hr0 := stab_same hrd T0
  have HG := Lib.hid (isAlgebra_any _ x w0 hr0)
  obtain ⟨r, hr⟩ : ∃ r, algB x = r := ⟨_, rfl⟩
  have HS := Lib.hid hr
  rw [hr] at HG
  clear hw0 hsz0 hr hs hrd
  go_enter Try.func20, Try.ntmps20
  go_upto_region 1 with fail
  rw [← HW0.out]
  rcases r with _ | _
  · have HM : Hid (reB x s = false ∧ reM x s = (0, [])) := by
      have h1 : reB x s = false := by unfold reB; rw [HS.out]; rfl
      exact ⟨h1, by unfold reM; rw [h1]; rfl⟩
    go_wp2_with fail
    refine HG.out.mono ?_
    rintro e w1 ⟨rfl, hb1⟩
    have T1 := below_next T0 hb1 rfl
    have BR1 := BR.next hb1
    have cR0 := BR1.cell 0
    have cR1 := BR1.cell 1
    have fR0 := BR1.frozen 0
    have fR1 := BR1.frozen 1
    simp at cR0 cR1
    have BRR : Blk ((w1.setCell ⟨w.heap.size + 1, 0, none⟩ (.int .i64 0)).setCell ⟨w.heap.size + 1, 1, none⟩ (.slice none 0 0)) (w.heap.size + 1) 26 #[.int .i64 0, .slice none 0 0] := by simpa using ((BR1.set_ 0 (.int .i64 0)).set_ 1 (.slice none 0 0))
    have hT := (T1.setCell (p := ⟨w.heap.size + 1, 0, none⟩) (by show w.heap.size ≤ w.heap.size + 1; omega) (.int .i64 0)).setCell (p := ⟨w.heap.size + 1, 1, none⟩) (by show w.heap.size ≤ w.heap.size + 1; omega) (.slice none 0 0)
    have HF := Lib.hid BRR
    have HT := Lib.hid hT
    clear BRR hT
    go_wp2_with fail
    (try simp only [Exit.inBlock, Exit.then])
    rw [HM.out.1, HM.out.2]
    refine bodyPost_ret (v := .tuple #[.agg #[.int .i64 0, .slice none 0 0], .bool false]) (res_row_tmpC rfl _ _ (w.heap.size + 1) 26 #[.int .i64 0, .slice none 0 0] (0, 0) _ _ (by simp) HF.out Try.underlying26 rfl (by kernel_rfl) rfl) rfl ?_
    exact ⟨[.int .i64 0, .slice none 0 0], [], rfl, nilAlg _, Iv.nil _ _, HT.out⟩
  · have hx := alg_iff.1 HS.out
    obtain ⟨z, ops⟩ := x
    obtain ⟨n, rfl⟩ : ∃ n : Nat, z = (n : Int) := ⟨z.toNat, by have h1 : 1 ≤ z := hx.1; omega⟩
    have hn8 : n ≤ 8 := by have h1 : (n : Int) ≤ 8 := hx.2.1; omega
    obtain ⟨q, hq⟩ : ∃ q, permB n s = q := ⟨_, rfl⟩
    have HQ := Lib.hid hq
    have HQ2 : Hid (reB ((n : Int), ops) s = q) := by show _ = _; unfold reB; rw [HS.out, ← hq]; rfl
    have HX := Lib.hid hx
    clear hq
    go_wp2_with fail
    refine HG.out.mono ?_
    rintro e w1 ⟨rfl, hb1⟩
    have T1 := below_next T0 hb1 rfl
    have BR1 := BR.next hb1
    have hs1 := hs0.next stab_RI hb1
    have hr1 := stab_same hr0 hb1
    have HO := isOrder_any N k c n s w1 hs1 (by omega)
    rw [HQ.out] at HO
    have HO := Lib.hid HO
    clear cP0 cP1
    have cP0 := (BP.next hb1).cell 0
    simp at cP0
    go_wp2_with fail
    refine HO.out.mono ?_
    rintro e w2 ⟨rfl, hb2⟩
    replace T1 := below_next T1 hb2 rfl
    replace BR1 := BR1.next hb2
    have hs2 := hs1.next stab_RI hb2
    have hr2 := stab_same hr1 hb2
    clear cP0
    rcases q with _ | _
    · have HM : Hid (reB ((n : Int), ops) s = false ∧ reM ((n : Int), ops) s = (0, [])) := ⟨HQ2.out, by unfold reM; rw [HQ2.out]; rfl⟩
      have cR0 := BR1.cell 0
      have cR1 := BR1.cell 1
      have fR0 := BR1.frozen 0
      have fR1 := BR1.frozen 1
      simp at cR0 cR1
      have BRR : Blk ((w2.setCell ⟨w.heap.size + 1, 0, none⟩ (.int .i64 0)).setCell ⟨w.heap.size + 1, 1, none⟩ (.slice none 0 0)) (w.heap.size + 1) 26 #[.int .i64 0, .slice none 0 0] := by simpa using ((BR1.set_ 0 (.int .i64 0)).set_ 1 (.slice none 0 0))
      have hT := (T1.setCell (p := ⟨w.heap.size + 1, 0, none⟩) (by show w.heap.size ≤ w.heap.size + 1; omega) (.int .i64 0)).setCell (p := ⟨w.heap.size + 1, 1, none⟩) (by show w.heap.size ≤ w.heap.size + 1; omega) (.slice none 0 0)
      have HF := Lib.hid BRR
      have HT := Lib.hid hT
      clear BRR hT
      go_wp2_with fail
      (try simp only [Exit.inBlock, Exit.then])
      rw [HM.out.1, HM.out.2]
      refine bodyPost_ret (v := .tuple #[.agg #[.int .i64 0, .slice none 0 0], .bool false]) (res_row_tmpC rfl _ _ (w.heap.size + 1) 26 #[.int .i64 0, .slice none 0 0] (0, 0) _ _ (by simp) HF.out Try.underlying26 rfl (by kernel_rfl) rfl) rfl ?_
      exact ⟨[.int .i64 0, .slice none 0 0], [], rfl, nilAlg _, Iv.nil _ _, HT.out⟩
    · have HM : Hid (reB ((n : Int), ops) s = true ∧ reM ((n : Int), ops) s = ren ((n : Int), ops) s) := ⟨HQ2.out, by unfold reM; rw [HQ2.out]; rfl⟩
      have HRN := Lib.hid (rename8_any _ ((n : Int), ops) N k c s w2 hr2 hs2 HX.out (tt_iff.1 HQ.out))
      have HSR : Hid (InR (n : Int)) := ⟨by omega, by omega⟩
      have cP0 := (BP.next (below_next hb1 hb2 rfl)).cell 0
      have cP1 := (BP.next (below_next hb1 hb2 rfl)).cell 1
      simp at cP0 cP1
      obtain ⟨y, HY⟩ : ∃ y, Hid (ren ((n : Int), ops) s = y) := ⟨_, Lib.hid rfl⟩
      have HY1 : Hid (y.1 = (n : Int)) := by show _ = _; rw [← HY.out]; rfl
      rw [HY.out] at HRN HM
      go_wp2_with fail
      refine HRN.out.mono ?_
      rintro e w3 ⟨v, css, bls, rfl, hP, hb3⟩
      have T3 := below_next T1 hb3 rfl
      have BR3 := BR1.next hb3
      obtain ⟨VA, vc, rfl⟩ := own_slice hP.2.1
      obtain ⟨LA, HLA⟩ : ∃ LA, Hid (y.2.length = LA) := ⟨_, rfl⟩
      rw [HLA.out] at hP
      rw [HLA.out, HY1.out]
      have hP3 := hP.mono T1.size
      have hPn : w.heap.size + 1 ∉ obl (.slice VA LA vc) ++ bls.flatten := hP3.notin BR3 (by decide) (by decide)
      have hPF := (hP3.farB (k := 0) (u := .int .i64 (n : Int)) hPn).farB (k := 1) (u := .slice VA LA vc) hPn
      have hTF := (T3.setCell (p := ⟨w.heap.size + 1, 0, none⟩) (by show w.heap.size ≤ w.heap.size + 1; omega) (.int .i64 (n : Int))).setCell (p := ⟨w.heap.size + 1, 1, none⟩) (by show w.heap.size ≤ w.heap.size + 1; omega) (.slice VA LA vc)
      have BRR : Blk ((w3.setCell ⟨w.heap.size + 1, 0, none⟩ (.int .i64 (n : Int))).setCell ⟨w.heap.size + 1, 1, none⟩ (.slice VA LA vc)) (w.heap.size + 1) 26 #[.int .i64 (n : Int), .slice VA LA vc] := by simpa using ((BR3.set_ 0 (.int .i64 (n : Int))).set_ 1 (.slice VA LA vc))
      have hOW : shAlgebra.own ((w3.setCell ⟨w.heap.size + 1, 0, none⟩ (.int .i64 (n : Int))).setCell ⟨w.heap.size + 1, 1, none⟩ (.slice VA LA vc)) [.int .i64 (n : Int), .slice VA LA vc] y (obl (.slice VA LA vc) ++ bls.flatten) := by
        have := hPF.algO HSR.out
        have e9 : ((n : Int), y.2) = y := by rw [← HY1.out]
        rw [e9] at this
        exact this
      have HF1 := Lib.hid hOW
      have HF2 := Lib.hid hPF.2.2
      have HF3 := Lib.hid hTF
      have HF4 := Lib.hid BRR
      have xR0 := BR3.cell 0
      have xR1 := BR3.cell 1
      have xf0 := BR3.frozen 0
      have xf1 := BR3.frozen 1
      simp at xR0 xR1
      clear hP hP3 hPn hPF hTF BRR hOW cP0 cP1
      go_wp2_with fail
      (try simp only [Exit.inBlock, Exit.then])
      rw [HM.out.1, HM.out.2]
      refine bodyPost_ret (v := .tuple #[.agg #[.int .i64 (n : Int), .slice VA LA vc], .bool true]) (res_row_tmpC rfl _ _ (w.heap.size + 1) 26 #[.int .i64 (n : Int), .slice VA LA vc] (0, 0) _ _ (by simp) HF4.out Try.underlying26 rfl (by kernel_rfl) rfl) rfl ?_
      exact ⟨[.int .i64 (n : Int), .slice VA LA vc], _, rfl, HF1.out, HF2.out, HF3.out⟩
def OwnL (w : World) (xs : List OpM) (css : List (List Value)) (bls : List (List Nat)) : Prop := css.length = xs.length ∧ bls.length = xs.length ∧ ∀ (k : Nat) c x bk, css[k]? = some c → xs[k]? = some x → bls[k]? = some bk → shOp.own w c x bk
theorem OwnL.nil (w : World) : OwnL w [] [] [] := ⟨rfl, rfl, fun k c x bk h => by simp at h⟩
theorem OwnL.cons {w : World} {c : List Value} {x : OpM} {bk : List Nat} {xs : List OpM} {css : List (List Value)} {bls : List (List Nat)} (h : shOp.own w c x bk) (hs : OwnL w xs css bls) : OwnL w (x :: xs) (c :: css) (bk :: bls) := by
  obtain ⟨h1, h2, h3⟩ := hs
  refine ⟨by simp [h1], by simp [h2], fun k c' x' bk' e1 e2 e3 => ?_⟩
  cases k with
  | zero =>
    simp at e1 e2 e3
    subst e1 e2 e3
    exact h
  | succ k =>
    simp at e1 e2 e3
    exact h3 k c' x' bk' e1 e2 e3
theorem PO.make {lo n : Nat} {w : World} {xs : List OpM} {css : List (List Value)} {bls : List (List Nat)} {cells : Array Value} (hp : OwnL w xs css bls) (hiv : Iv lo w.heap.size bls.flatten) (hlo : lo ≤ w.heap.size) (hn : xs.length = n) (hm : n ≤ 1000) (hc : cells.toList = css.flatten) :
    PO lo (w.alloc (.cells cells 72)) (.slice (some ⟨w.heap.size, 0, none⟩) n n) xs css bls := by
  obtain ⟨h1, h2, h3⟩ := hp
  have hb := below_box w (.cells cells 72)
  have hall : ∀ c ∈ css, c.length = 2 := fun c hc' => by
    obtain ⟨k, hk⟩ := List.getElem?_of_mem hc'
    have hkl := (List.getElem?_eq_some_iff.1 hk).1
    have := h3 k c _ _ hk (List.getElem?_eq_getElem (by omega)) (List.getElem?_eq_getElem (by omega))
    exact shOp.rd_len (shOp.ord this)
  have hsz : cells.size = n * 2 := by
    have := congrArg List.length hc
    rw [flat_len hall, Array.length_toList] at this
    omega
  have hrow := World.ownsRow_lit (base := lo) (e := 72) (size := 2) w cells n hlo (by unfold maxLen; omega) hsz
  rw [hc] at hrow
  have hP : Parts shOp 72 (w.alloc (.cells cells 72)) (.slice (some ⟨w.heap.size, 0, none⟩) n n) xs css bls := by
    refine ⟨?_, h1, h2, fun k c x bk e1 e2 e3 => Sh.onext (h3 k c x bk e1 e2 e3) hb⟩
    rw [hn]
    exact own_mono hrow (Nat.zero_le _)
  refine ⟨hP, by rw [hn]; exact hrow, ?_, fun b hb' => ?_⟩
  · refine List.nodup_append.2 ⟨obl_nd _, hiv.1, fun a ha b hb' e => ?_⟩
    simp [obl, Value.ownBlock] at ha
    subst ha e
    have := (hiv.2 _ hb').2
    omega
  · have hz : (w.alloc (.cells cells 72)).heap.size = w.heap.size + 1 := by simp
    rcases List.mem_append.1 hb' with hb' | hb'
    · simp [obl, Value.ownBlock] at hb'
      omega
    · have := hiv.2 b hb'
      omega
theorem PO.algK {lo : Nat} {w : World} {v : Value} {a : Int} {xs : List OpM} {css : List (List Value)} {bls : List (List Nat)} (h : PO lo w v xs css bls) (ha : InR a) : shAlgebra.own w [.int .i64 a, v] (a, xs) (obl v ++ bls.flatten) :=
  ⟨[.int .i64 a], [v], [], obl v ++ bls.flatten, rfl, rfl, ⟨_, rfl, ⟨rfl, ha.1, ha.2⟩, rfl⟩, h.own⟩
/-- A literal table. -/
theorem own_tab {w : World} {a : Int} {L : List Int} {n : Nat} (ha : InR a) (hn : L.length = n) (hm : n ≤ 1000) (hL : ∀ x ∈ L, InR x) : shOp.own (w.alloc (.cells (ints L).toArray 3)) [.int .i64 a, .slice (some ⟨w.heap.size, 0, none⟩) n n] (a, L) [w.heap.size] := by
  have hrow := World.ownsRow_lit (base := 0) (e := 3) (size := 1) w (ints L).toArray n (Nat.zero_le _) (by unfold maxLen; omega) (by simp [ints, hn])
  refine ⟨[.int .i64 a], [.slice (some ⟨w.heap.size, 0, none⟩) n n], [], [w.heap.size], rfl, rfl, ⟨_, rfl, ⟨rfl, ha.1, ha.2⟩, rfl⟩, ⟨_, rfl, ?_, hL, by simp [obl, Value.ownBlock]⟩⟩
  show World.ownsRow _ 0 3 1 _ L.length _
  rw [hn]
  exact hrow
theorem own_opE {w w' : World} {a : Int} {L : List Int} {A : Option Addr} {n c : Nat} (ha : InR a) (hn : L.length = n) (h : w'.ownsRow w.heap.size 3 1 (.slice A n c) n (ints L)) (hL : ∀ x ∈ L, InR x) : shOp.own w' [.int .i64 a, .slice A n c] (a, L) (obl (.slice A n c)) ∧ Iv w.heap.size w'.heap.size (obl (.slice A n c)) := by
  refine ⟨⟨[.int .i64 a], [.slice A n c], [], _, rfl, rfl, ⟨_, rfl, ⟨rfl, ha.1, ha.2⟩, rfl⟩, ⟨_, rfl, ?_, hL, rfl⟩⟩, obl_nd _, fun b hb => h.lt b (mem_obl.1 hb)⟩
  show World.ownsRow _ 0 3 1 _ L.length _
  rw [hn]
  exact own_mono h (Nat.zero_le _)
def binV (c : UInt8) : Int := IntKind.u8.wrap ((c.toNat : Int) - 48)
def binL (s : ByteArray) : List Int := (bs s).map binV
theorem binV_in (c : UInt8) : 0 ≤ binV c ∧ binV c ≤ 255 := by
  unfold binV
  rw [IntKind.wrap_u8]
  omega
theorem binL_next {s : ByteArray} {k : Nat} (h : k < s.size) : ints ((binL s).take k) ++ [.int .i64 (binV s[k])] = ints ((binL s).take (k + 1)) := by
  have hl : k < (bs s).length := h
  have e : (binL s)[k]? = some (binV s[k]) := by
    unfold binL
    rw [List.getElem?_map, List.getElem?_eq_getElem hl]
    rfl
  rw [List.take_add_one, e]
  simp [ints]
  rfl
theorem l2Binary_any (s : ByteArray) (w : World) (hs : s.size ≤ 1000) : Calls Try.prog 82 #[.string s] w (ToE shOp w (2, binL s)) := by
  obtain ⟨w0, hw0, T0, hsz0, BR, BG⟩ := boxes2 w #[.int .i64 0, .slice none 0 0] #[.int .i64 2, .slice none 0 0] 72 72
  have HLEN : Hid ((binL s).length = s.size) := by show _ = _; unfold binL; rw [List.length_map]; rfl
  have hown0 : w0.ownsRow w0.heap.size 3 1 (.slice none 0 0) 0 (ints ((binL s).take 0)) := ⟨rfl, .inl ⟨rfl, rfl⟩⟩
  have HW0 := Lib.hid hw0
  have hle0 : w.heap.size + 1 < w0.heap.size := by omega
  clear hw0 hsz0
  go_enter Try.func82, Try.ntmps82
  go_upto_region 2 with fail
  rw [← HW0.out]
  go_wp2_with fail
  go_loopw [4] (fun i wr => ∃ (k : Nat) (A : Option Addr) (c : Nat), k ≤ s.size ∧ i = .int .i64 k ∧ Blk wr (w.heap.size + 1) 72 #[.int .i64 2, .slice A k c] ∧ wr.ownsRow w0.heap.size 3 1 (.slice A k c) k (ints ((binL s).take k)) ∧ Blk wr w.heap.size 72 #[.int .i64 0, .slice none 0 0] ∧ Below w.heap.size w wr ∧ w0.heap.size ≤ wr.heap.size) (fun i _ => s.size - (intOf i).toNat)
  case atStart => exact ⟨0, none, 0, Nat.zero_le _, rfl, BG, hown0, BR, T0, Nat.le_refl _⟩
  case round =>
    clear BG hown0 BR T0
    obtain ⟨k, A, c, hk, rfl, BG, hown, BR, hTr, hzr⟩ := hrel
    by_cases hlt : k < s.size
    · have hk0 : (0 : Int) ≤ (k : Int) := by omega
      have hk1 : (k : Int) < (s.size : Int) := by omega
      have cG1 := BG.cell 1
      simp at cG1
      have hown1 := hown
      have hzz := hzr
      have cR0 := BR.cell 0
      simp at cR0
      have hown2' : ints ((binL s).take k) ++ [.int .i64 (IntKind.i64.wrap (IntKind.u8.wrap ((s[k].toNat : Int) - 48)))] = ints ((binL s).take (k + 1)) := by
        have := binV_in s[k]
        rw [show IntKind.i64.wrap (IntKind.u8.wrap ((s[k].toNat : Int) - 48)) = binV s[k] by show IntKind.i64.wrap (binV s[k]) = _; rw [IntKind.wrap_i64]; omega]
        exact binL_next hlt
      have HNX := Lib.hid hown2'
      clear hown2'
      go_upto_region 5 with fail
      refine wp_region_held_drew (S := fun w' => w'.cell? ⟨w.heap.size, 0, none⟩ = some (.int .i64 0)) (by kernel_rfl) cR0 (fun hHeld0 => ?_)
      obtain ⟨wt1, Hwt1⟩ : ∃ x, Hid (x = World.drew wr) := ⟨_, rfl⟩
      have hbwt1 : Below wr.heap.size wr wt1 := by rw [Hwt1.out]; exact (Below.refl _ _).drew
      rw [← Hwt1.out] at hHeld0 ⊢
      have ywt1 := hbwt1.size
      replace BG := BG.next hbwt1
      replace BR := BR.next hbwt1
      replace hown1 := own_next hown1 hbwt1
      replace hTr := hTr.trans (hbwt1.mono hTr.size)
      replace cG1 := keepc hbwt1 cG1
      replace cR0 := keepc hbwt1 cR0
      refine wpAnyH_take (i := 0) (v := .pointer (some ⟨(w.heap.size + 1), 1, none⟩)) rfl (by kernel_rfl) (by kernel_rfl) (by kernel_rfl) (fun _ _ _ h => h) (Or.inl ⟨by kernel_rfl, fun _ _ => by go_simp⟩) (by assumption) ?_
      (try simp only [Act.put, List.getElem_toArray, List.getElem_cons_zero, List.getElem_cons_succ, List.setIfInBounds_toArray, List.set_cons_zero, List.set_cons_succ])
      refine wpAnyH_take (i := 2) (v := .string s) rfl (by kernel_rfl) (by kernel_rfl) (by kernel_rfl) (fun _ _ _ h => h) (Or.inl ⟨by kernel_rfl, fun _ _ => by go_simp⟩) (by assumption) ?_
      (try simp only [Act.put, List.getElem_toArray, List.getElem_cons_zero, List.getElem_cons_succ, List.setIfInBounds_toArray, List.set_cons_zero, List.set_cons_succ])
      refine wpAnyH_take (i := 3) (v := .int .i64 k) rfl (by kernel_rfl) (by kernel_rfl) (by kernel_rfl) (fun _ _ _ h => h) (Or.inl ⟨by kernel_rfl, fun _ _ => by go_simp⟩) (by assumption) ?_
      (try simp only [Act.put, List.getElem_toArray, List.getElem_cons_zero, List.getElem_cons_succ, List.setIfInBounds_toArray, List.set_cons_zero, List.set_cons_succ])
      refine wpAnyH_take (i := 4) (v := .int .u8 (s[k].toNat : Int)) rfl (by kernel_rfl) (by kernel_rfl) (by kernel_rfl) (fun _ _ _ h => h) (Or.inl ⟨by kernel_rfl, fun _ _ => by go_simp⟩) (by assumption) ?_
      (try simp only [Act.put, List.getElem_toArray, List.getElem_cons_zero, List.getElem_cons_succ, List.setIfInBounds_toArray, List.set_cons_zero, List.set_cons_succ])
      refine wpAnyH_take (i := 5) (v := .int .u8 (IntKind.u8.wrap ((s[k].toNat : Int) - 48))) rfl (by kernel_rfl) (by kernel_rfl) (by kernel_rfl) (fun _ _ _ h => h) (Or.inl ⟨by kernel_rfl, fun _ _ => by go_simp⟩) (by assumption) ?_
      (try simp only [Act.put, List.getElem_toArray, List.getElem_cons_zero, List.getElem_cons_succ, List.setIfInBounds_toArray, List.set_cons_zero, List.set_cons_succ])
      refine wpAnyH_take (i := 6) (v := .int .i64 (IntKind.i64.wrap (IntKind.u8.wrap ((s[k].toNat : Int) - 48)))) rfl (by kernel_rfl) (by kernel_rfl) (by kernel_rfl) (fun _ _ _ h => h) (Or.inl ⟨by kernel_rfl, fun _ _ => by go_simp⟩) (by assumption) ?_
      (try simp only [Act.put, List.getElem_toArray, List.getElem_cons_zero, List.getElem_cons_succ, List.setIfInBounds_toArray, List.set_cons_zero, List.set_cons_succ])
      refine wpAnyH_ready (rs := [1, 7]) (by kernel_rfl) (by simp) ?_
      refine (AllReadyH.cons rfl (fun K hK => ?_) (AllReadyH.cons rfl (fun K hK => ?_) AllReadyH.nil))
      · go_simp
        refine hK.out _ _ cR0 (fun hHeld1 => ?_)
        clear hK K hHeld0
        (try simp only [Act.put, List.getElem_toArray, List.getElem_cons_zero, List.getElem_cons_succ, List.setIfInBounds_toArray, List.set_cons_zero, List.set_cons_succ])
        refine wpAnyH_ready (rs := [7]) (by kernel_rfl) (by simp) ?_
        refine (AllReadyH.cons rfl (fun K hK => ?_) AllReadyH.nil)
        have hownW := hown1
        have BGW := BG
        have BRW := BR
        have hTW := hTr
        have hzW : w0.heap.size ≤ wt1.heap.size := Nat.le_trans hzr (by omega)
        go_simp
        obtain ⟨wt2, Hwt2⟩ : ∃ x, Hid (x = wt1.alloc (.cells #[.int .i64 (IntKind.i64.wrap (IntKind.u8.wrap ((s[k].toNat : Int) - 48)))] 3)) := ⟨_, Lib.hid rfl⟩
        rw [← Hwt2.out]
        have hbwt2 : Below wt1.heap.size wt1 wt2 := by rw [Hwt2.out]; exact below_box _ _
        have Bwt2 : Blk wt2 wt1.heap.size 3 #[.int .i64 (IntKind.i64.wrap (IntKind.u8.wrap ((s[k].toNat : Int) - 48)))] := by rw [Hwt2.out]; exact Blk.new _ _ _
        have zwt2 : wt1.heap.size < wt2.heap.size := Bwt2.lt
        have ywt2 := hbwt2.size
        replace BG := BG.next hbwt2
        replace BR := BR.next hbwt2
        replace hown1 := own_next hown1 hbwt2
        replace hTr := hTr.trans (hbwt2.mono hTr.size)
        replace cG1 := keepc hbwt2 cG1
        replace cR0 := keepc hbwt2 cR0
        refine hK.out _ _ cR0 (fun hHeld2 => ?_)
        clear hK K hHeld1
        (try simp only [Act.put, List.getElem_toArray, List.getElem_cons_zero, List.getElem_cons_succ, List.setIfInBounds_toArray, List.set_cons_zero, List.set_cons_succ])
        refine wpAnyH_ready (rs := [8]) (by kernel_rfl) (by simp) ?_
        refine (AllReadyH.cons rfl (fun K hK => ?_) AllReadyH.nil)
        rw [Hwt2.out]
        refine step_app1 wt1 rfl (.tmp 13) (.tmp 19) 38 3 rfl (.int .i64 0) 8 Try.underlying38 info_int rfl (by decide) w0.heap.size k c A (ints ((binL s).take k)) (by rfl) hownW _ rfl (by rfl) (by omega) hzW ?_
        intro A2 c2 wt3 hown2 hg2 hb2
        rw [HNX.out] at hown2
        have B2 := BGW.below hb2 hle0
        have BR2 := BRW.below hb2 (by omega)
        replace cR0 := BR2.cell 0
        simp at cR0
        have T2 := hTW.trans (hb2.mono (by omega))
        have hz2 := hb2.size
        refine hK.out _ _ cR0 (fun hHeld3 => ?_)
        clear hK K hHeld2
        (try simp only [Act.put, List.getElem_toArray, List.getElem_cons_zero, List.getElem_cons_succ, List.setIfInBounds_toArray, List.set_cons_zero, List.set_cons_succ])
        refine wpAnyH_take (i := 9) (v := .pointer (some ⟨(w.heap.size + 1), 1, none⟩)) rfl (by kernel_rfl) (by kernel_rfl) (by kernel_rfl) (fun _ _ _ h => h) (Or.inl ⟨by kernel_rfl, fun _ _ => by go_simp⟩) (by assumption) ?_
        (try simp only [Act.put, List.getElem_toArray, List.getElem_cons_zero, List.getElem_cons_succ, List.setIfInBounds_toArray, List.set_cons_zero, List.set_cons_succ])
        refine wpAnyH_ready (rs := [10]) (by kernel_rfl) (by simp) ?_
        refine (AllReadyH.cons rfl (fun K hK => ?_) AllReadyH.nil)
        have f21 := B2.frozen 1
        have c21 := B2.cell 1
        simp at c21
        go_simp
        obtain ⟨wt4, Hwt4⟩ : ∃ x, Hid (x = wt3.setCell ⟨w.heap.size + 1, 1, none⟩ (.slice A2 (k + 1) c2)) := ⟨_, rfl⟩
        rw [← Hwt4.out]
        have B3 : Blk wt4 (w.heap.size + 1) 72 #[.int .i64 2, .slice A2 (k + 1) c2] := by rw [Hwt4.out]; simpa using B2.set_ 1 (.slice A2 (k + 1) c2)
        have BR3 : Blk wt4 w.heap.size 72 #[.int .i64 0, .slice none 0 0] := by rw [Hwt4.out]; exact BR2.far (by simp) _
        have hown3 : wt4.ownsRow w0.heap.size 3 1 (.slice A2 (k + 1) c2) (k + 1) (ints ((binL s).take (k + 1))) := by rw [Hwt4.out]; exact own_same hown2 fun b hb => Below.heap_setCell _ _ _ _ (fun e => by have := (hown2.lt b hb).1; rw [e] at this; simp at this; omega)
        have T3 : Below w.heap.size w wt4 := by rw [Hwt4.out]; exact T2.setCell (p := ⟨w.heap.size + 1, 1, none⟩) (by simp) _
        have hz3 : w0.heap.size ≤ wt4.heap.size := by rw [Hwt4.out]; simpa using Nat.le_trans hzW hz2
        replace cR0 := BR3.cell 0
        simp at cR0
        refine hK.out _ _ cR0 (fun hHeld4 => ?_)
        clear hK K hHeld3
        (try simp only [Act.put, List.getElem_toArray, List.getElem_cons_zero, List.getElem_cons_succ, List.setIfInBounds_toArray, List.set_cons_zero, List.set_cons_succ])
        refine wpAnyH_done (by kernel_rfl) ?_ _
        go_wp2_with fail
        go_roundw
        case rel => exact ⟨k + 1, A2, c2, by omega, by go_num, B3, hown3, BR3, T3, hz3⟩
        case measure => simp [intOf]; omega
      · have hownW := hown1
        have BGW := BG
        have BRW := BR
        have hTW := hTr
        have hzW : w0.heap.size ≤ wt1.heap.size := Nat.le_trans hzr (by omega)
        go_simp
        obtain ⟨wt5, Hwt5⟩ : ∃ x, Hid (x = wt1.alloc (.cells #[.int .i64 (IntKind.i64.wrap (IntKind.u8.wrap ((s[k].toNat : Int) - 48)))] 3)) := ⟨_, Lib.hid rfl⟩
        rw [← Hwt5.out]
        have hbwt5 : Below wt1.heap.size wt1 wt5 := by rw [Hwt5.out]; exact below_box _ _
        have Bwt5 : Blk wt5 wt1.heap.size 3 #[.int .i64 (IntKind.i64.wrap (IntKind.u8.wrap ((s[k].toNat : Int) - 48)))] := by rw [Hwt5.out]; exact Blk.new _ _ _
        have zwt5 : wt1.heap.size < wt5.heap.size := Bwt5.lt
        have ywt5 := hbwt5.size
        replace BG := BG.next hbwt5
        replace BR := BR.next hbwt5
        replace hown1 := own_next hown1 hbwt5
        replace hTr := hTr.trans (hbwt5.mono hTr.size)
        replace cG1 := keepc hbwt5 cG1
        replace cR0 := keepc hbwt5 cR0
        refine hK.out _ _ cR0 (fun hHeld1 => ?_)
        clear hK K hHeld0
        (try simp only [Act.put, List.getElem_toArray, List.getElem_cons_zero, List.getElem_cons_succ, List.setIfInBounds_toArray, List.set_cons_zero, List.set_cons_succ])
        refine wpAnyH_ready (rs := [1]) (by kernel_rfl) (by simp) ?_
        refine (AllReadyH.cons rfl (fun K hK => ?_) AllReadyH.nil)
        go_simp
        refine hK.out _ _ cR0 (fun hHeld2 => ?_)
        clear hK K hHeld1
        (try simp only [Act.put, List.getElem_toArray, List.getElem_cons_zero, List.getElem_cons_succ, List.setIfInBounds_toArray, List.set_cons_zero, List.set_cons_succ])
        refine wpAnyH_ready (rs := [8]) (by kernel_rfl) (by simp) ?_
        refine (AllReadyH.cons rfl (fun K hK => ?_) AllReadyH.nil)
        rw [Hwt5.out]
        refine step_app1 wt1 rfl (.tmp 13) (.tmp 19) 38 3 rfl (.int .i64 0) 8 Try.underlying38 info_int rfl (by decide) w0.heap.size k c A (ints ((binL s).take k)) (by rfl) hownW _ rfl (by rfl) (by omega) hzW ?_
        intro A2 c2 wt6 hown2 hg2 hb2
        rw [HNX.out] at hown2
        have B2 := BGW.below hb2 hle0
        have BR2 := BRW.below hb2 (by omega)
        replace cR0 := BR2.cell 0
        simp at cR0
        have T2 := hTW.trans (hb2.mono (by omega))
        have hz2 := hb2.size
        refine hK.out _ _ cR0 (fun hHeld3 => ?_)
        clear hK K hHeld2
        (try simp only [Act.put, List.getElem_toArray, List.getElem_cons_zero, List.getElem_cons_succ, List.setIfInBounds_toArray, List.set_cons_zero, List.set_cons_succ])
        refine wpAnyH_take (i := 9) (v := .pointer (some ⟨(w.heap.size + 1), 1, none⟩)) rfl (by kernel_rfl) (by kernel_rfl) (by kernel_rfl) (fun _ _ _ h => h) (Or.inl ⟨by kernel_rfl, fun _ _ => by go_simp⟩) (by assumption) ?_
        (try simp only [Act.put, List.getElem_toArray, List.getElem_cons_zero, List.getElem_cons_succ, List.setIfInBounds_toArray, List.set_cons_zero, List.set_cons_succ])
        refine wpAnyH_ready (rs := [10]) (by kernel_rfl) (by simp) ?_
        refine (AllReadyH.cons rfl (fun K hK => ?_) AllReadyH.nil)
        have f21 := B2.frozen 1
        have c21 := B2.cell 1
        simp at c21
        go_simp
        obtain ⟨wt7, Hwt7⟩ : ∃ x, Hid (x = wt6.setCell ⟨w.heap.size + 1, 1, none⟩ (.slice A2 (k + 1) c2)) := ⟨_, rfl⟩
        rw [← Hwt7.out]
        have B3 : Blk wt7 (w.heap.size + 1) 72 #[.int .i64 2, .slice A2 (k + 1) c2] := by rw [Hwt7.out]; simpa using B2.set_ 1 (.slice A2 (k + 1) c2)
        have BR3 : Blk wt7 w.heap.size 72 #[.int .i64 0, .slice none 0 0] := by rw [Hwt7.out]; exact BR2.far (by simp) _
        have hown3 : wt7.ownsRow w0.heap.size 3 1 (.slice A2 (k + 1) c2) (k + 1) (ints ((binL s).take (k + 1))) := by rw [Hwt7.out]; exact own_same hown2 fun b hb => Below.heap_setCell _ _ _ _ (fun e => by have := (hown2.lt b hb).1; rw [e] at this; simp at this; omega)
        have T3 : Below w.heap.size w wt7 := by rw [Hwt7.out]; exact T2.setCell (p := ⟨w.heap.size + 1, 1, none⟩) (by simp) _
        have hz3 : w0.heap.size ≤ wt7.heap.size := by rw [Hwt7.out]; simpa using Nat.le_trans hzW hz2
        replace cR0 := BR3.cell 0
        simp at cR0
        refine hK.out _ _ cR0 (fun hHeld4 => ?_)
        clear hK K hHeld3
        (try simp only [Act.put, List.getElem_toArray, List.getElem_cons_zero, List.getElem_cons_succ, List.setIfInBounds_toArray, List.set_cons_zero, List.set_cons_succ])
        refine wpAnyH_done (by kernel_rfl) ?_ _
        go_wp2_with fail
        go_roundw
        case rel => exact ⟨k + 1, A2, c2, by omega, by go_num, B3, hown3, BR3, T3, hz3⟩
        case measure => simp [intOf]; omega
    · obtain rfl : k = s.size := by omega
      have hk1 : ¬ (s.size : Int) < (s.size : Int) := by omega
      rw [List.take_of_length_le (by rw [HLEN.out]; exact Nat.le_refl _)] at hown
      have cG0 := BG.cell 0
      have cG1 := BG.cell 1
      have cR0 := BR.cell 0
      have cR1 := BR.cell 1
      simp at cG0 cG1 cR0 cR1
      have fR0 := BR.frozen 0
      have fR1 := BR.frozen 1
      obtain ⟨wf, HWF⟩ : ∃ wf, Hid (wf = (wr.setCell ⟨w.heap.size, 0, none⟩ (.int .i64 2)).setCell ⟨w.heap.size, 1, none⟩ (.slice A s.size c)) := ⟨_, rfl⟩
      have BLF : Hid (Blk wf w.heap.size 72 #[.int .i64 2, .slice A s.size c]) := by show Blk _ _ _ _; rw [HWF.out]; simpa using (BR.set_ 0 (.int .i64 2)).set_ 1 (.slice A s.size c)
      have OF : Hid (wf.ownsRow w0.heap.size 3 1 (.slice A s.size c) s.size (ints (binL s))) := by show World.ownsRow _ _ _ _ _ _ _; rw [HWF.out]; exact own_same (own_same hown fun b hb => Below.heap_setCell _ _ _ _ (fun e => by have := (hown.lt b hb).1; rw [e] at this; simp at this; omega)) fun b hb => Below.heap_setCell _ _ _ _ (fun e => by have := (hown.lt b hb).1; rw [e] at this; simp at this; omega)
      have TF : Hid (Below w.heap.size w wf) := by show Below _ _ _; rw [HWF.out]; exact (hTr.setCell (p := ⟨w.heap.size, 0, none⟩) (Nat.le_refl _) _).setCell (p := ⟨w.heap.size, 1, none⟩) (Nat.le_refl _) _
      clear BG BR hown hTr
      go_wp2_with fail
      rw [← HWF.out]
      (try simp only [Exit.inBlock, Exit.then])
      refine bodyPost_ret (v := .agg #[.int .i64 2, .slice A s.size c]) (results_cell_row rfl _ _ w.heap.size 72 #[.int .i64 2, .slice A s.size c] (0, 0) _ (by simp) BLF.out Try.underlying72 rfl (by kernel_rfl)) rfl ?_
      have hbl : ∀ x ∈ binL s, InR x := fun x hx => by
        obtain ⟨y, -, rfl⟩ := List.mem_map.1 hx
        have := binV_in y
        exact ⟨by omega, by omega⟩
      have hoo := own_opE (w := w) (w' := wf) (a := 2) ⟨by omega, by omega⟩ HLEN.out (own_mono OF.out (by omega)) hbl
      exact ⟨[.int .i64 2, .slice A s.size c], _, rfl, hoo.1, hoo.2, TF.out⟩
theorem l2Affine2_any (w : World) : Calls Try.prog 83 #[.int .i64 2] w fun e w' => ∃ L, ToE shOp w (3, L) e w' ∧ L.length = 8 ∧ ∀ v ∈ L, 0 ≤ v ∧ v ≤ 1 := by
  obtain ⟨w0, hw0, T0, hsz0, BR, BG⟩ := boxes2 w #[.int .i64 0, .slice none 0 0] #[.int .i64 3, .slice none 0 0] 72 72
  have hown0 : w0.ownsRow w0.heap.size 3 1 (.slice none 0 0) 0 (ints []) := ⟨rfl, .inl ⟨rfl, rfl⟩⟩
  have HW0 := Lib.hid hw0
  have hle0 : w.heap.size + 1 < w0.heap.size := by omega
  clear hw0 hsz0
  go_enter Try.func83, Try.ntmps83
  go_upto_region 2 with fail
  rw [← HW0.out]
  go_wp2_with fail
  go_loopw [4] (fun i wr => ∃ (k : Nat) (A : Option Addr) (c : Nat) (L : List Int), k ≤ 8 ∧ i = .int .i64 k ∧ Blk wr (w.heap.size + 1) 72 #[.int .i64 3, .slice A k c] ∧ wr.ownsRow w0.heap.size 3 1 (.slice A k c) k (ints L) ∧ Hid (L.length = k ∧ ∀ v ∈ L, 0 ≤ v ∧ v ≤ 1) ∧ Blk wr w.heap.size 72 #[.int .i64 0, .slice none 0 0] ∧ Below w.heap.size w wr ∧ w0.heap.size ≤ wr.heap.size) (fun i _ => 8 - (intOf i).toNat)
  case atStart => exact ⟨0, none, 0, [], Nat.zero_le _, rfl, BG, hown0, Lib.hid ⟨rfl, fun v hv => by cases hv⟩, BR, T0, Nat.le_refl _⟩
  case round =>
    clear BG hown0 BR T0
    obtain ⟨k, A, c, L, hk, rfl, BG, hown, HL, BR, hTr, hzr⟩ := hrel
    by_cases hlt : k < 8
    · have hk0 : (0 : Int) ≤ (k : Int) := by omega
      have hk1 : (k : Int) < 8 := by omega
      have cG1 := BG.cell 1
      simp at cG1
      have hown1 := hown
      have hzz := hzr
      have cR0 := BR.cell 0
      simp at cR0
      obtain ⟨D1, hD1⟩ : ∃ D, k / 4 = D := ⟨_, rfl⟩
      obtain ⟨D2, hD2⟩ : ∃ D, k / 2 = D := ⟨_, rfl⟩
      obtain ⟨D3, hD3⟩ : ∃ D, D2 % 2 = D := ⟨_, rfl⟩
      obtain ⟨D4, hD4⟩ : ∃ D, k % 2 = D := ⟨_, rfl⟩
      obtain ⟨E1, hE1⟩ : ∃ D, D1 + 2 = D := ⟨_, rfl⟩
      obtain ⟨E2, hE2⟩ : ∃ D, E1 - D3 = D := ⟨_, rfl⟩
      obtain ⟨E3, hE3⟩ : ∃ D, E2 + D4 = D := ⟨_, rfl⟩
      obtain ⟨R, hR⟩ : ∃ D, E3 % 2 = D := ⟨_, rfl⟩
      have f1 : (k : Int) / 4 = (D1 : Int) := by omega
      have f1t : (k : Int).tdiv 4 = (D1 : Int) := by rw [Int.tdiv_eq_ediv_of_nonneg hk0]; exact f1
      have f2 : (k : Int) / 2 = (D2 : Int) := by omega
      have f2t : (k : Int).tdiv 2 = (D2 : Int) := by rw [Int.tdiv_eq_ediv_of_nonneg hk0]; exact f2
      have f3 : (D2 : Int) % 2 = (D3 : Int) := by omega
      have f3t : (D2 : Int).tmod 2 = (D3 : Int) := by rw [Int.tmod_eq_emod_of_nonneg (by omega)]; exact f3
      have f4 : (k : Int) % 2 = (D4 : Int) := by omega
      have f4t : (k : Int).tmod 2 = (D4 : Int) := by rw [Int.tmod_eq_emod_of_nonneg hk0]; exact f4
      have f5 : (D1 : Int) + 2 = (E1 : Int) := by omega
      have f6 : (E1 : Int) - (D3 : Int) = (E2 : Int) := by omega
      have f7 : (E2 : Int) + (D4 : Int) = (E3 : Int) := by omega
      have f8 : (E3 : Int) % 2 = (R : Int) := by omega
      have f8t : (E3 : Int).tmod 2 = (R : Int) := by rw [Int.tmod_eq_emod_of_nonneg (by omega)]; exact f8
      have g1 : IntKind.i64.wrap (D1 : Int) = (D1 : Int) := by rw [IntKind.wrap_i64]; omega
      have g2 : IntKind.i64.wrap (D2 : Int) = (D2 : Int) := by rw [IntKind.wrap_i64]; omega
      have g3 : IntKind.i64.wrap (D3 : Int) = (D3 : Int) := by rw [IntKind.wrap_i64]; omega
      have g4 : IntKind.i64.wrap (D4 : Int) = (D4 : Int) := by rw [IntKind.wrap_i64]; omega
      have g5 : IntKind.i64.wrap (E1 : Int) = (E1 : Int) := by rw [IntKind.wrap_i64]; omega
      have g6 : IntKind.i64.wrap (E2 : Int) = (E2 : Int) := by rw [IntKind.wrap_i64]; omega
      have g7 : IntKind.i64.wrap (E3 : Int) = (E3 : Int) := by rw [IntKind.wrap_i64]; omega
      have g8 : IntKind.i64.wrap (R : Int) = (R : Int) := by rw [IntKind.wrap_i64]; omega
      have g0 : IntKind.i64.wrap 4 = 4 := by rw [IntKind.wrap_i64]; omega
      have HL2 : Hid ((L ++ [(R : Int)]).length = k + 1 ∧ ∀ v ∈ L ++ [(R : Int)], 0 ≤ v ∧ v ≤ 1) := by
        refine ⟨by rw [List.length_append, HL.out.1]; rfl, fun v hv => ?_⟩
        rcases List.mem_append.1 hv with hv | hv
        · exact HL.out.2 v hv
        · rw [List.mem_singleton.1 hv]; omega
      clear hD1 hD2 hD3 hD4 hE1 hE2 hE3 hR
      have HNX : Hid (ints L ++ [.int .i64 (R : Int)] = ints (L ++ [(R : Int)])) := by show _ = _; simp [ints]
      go_upto_region 5 with fail
      refine wp_region_held_drew (S := fun w' => w'.cell? ⟨w.heap.size, 0, none⟩ = some (.int .i64 0)) (by kernel_rfl) cR0 (fun hHeld0 => ?_)
      obtain ⟨wt1, Hwt1⟩ : ∃ x, Hid (x = World.drew wr) := ⟨_, rfl⟩
      have hbwt1 : Below wr.heap.size wr wt1 := by rw [Hwt1.out]; exact (Below.refl _ _).drew
      rw [← Hwt1.out] at hHeld0 ⊢
      have ywt1 := hbwt1.size
      replace BG := BG.next hbwt1
      replace BR := BR.next hbwt1
      replace hown1 := own_next hown1 hbwt1
      replace hTr := hTr.trans (hbwt1.mono hTr.size)
      replace cG1 := keepc hbwt1 cG1
      replace cR0 := keepc hbwt1 cR0
      refine wpAnyH_take (i := 0) (v := .pointer (some ⟨(w.heap.size + 1), 1, none⟩)) rfl (by kernel_rfl) (by kernel_rfl) (by kernel_rfl) (fun _ _ _ h => h) (Or.inl ⟨by kernel_rfl, fun _ _ => by go_simp⟩) (by assumption) ?_
      (try simp only [Act.put, List.getElem_toArray, List.getElem_cons_zero, List.getElem_cons_succ, List.setIfInBounds_toArray, List.set_cons_zero, List.set_cons_succ])
      refine wpAnyH_take (i := 2) (v := .int .i64 k) rfl (by kernel_rfl) (by kernel_rfl) (by kernel_rfl) (fun _ _ _ h => h) (Or.inl ⟨by kernel_rfl, fun _ _ => by go_simp⟩) (by assumption) ?_
      (try simp only [Act.put, List.getElem_toArray, List.getElem_cons_zero, List.getElem_cons_succ, List.setIfInBounds_toArray, List.set_cons_zero, List.set_cons_succ])
      refine wpAnyH_take (i := 3) (v := .int .i64 2) rfl (by kernel_rfl) (by kernel_rfl) (by kernel_rfl) (fun _ _ _ h => h) (Or.inl ⟨by kernel_rfl, fun _ _ => by go_simp⟩) (by assumption) ?_
      (try simp only [Act.put, List.getElem_toArray, List.getElem_cons_zero, List.getElem_cons_succ, List.setIfInBounds_toArray, List.set_cons_zero, List.set_cons_succ])
      refine wpAnyH_take (i := 4) (v := .int .i64 2) rfl (by kernel_rfl) (by kernel_rfl) (by kernel_rfl) (fun _ _ _ h => h) (Or.inl ⟨by kernel_rfl, fun _ _ => by go_simp⟩) (by assumption) ?_
      (try simp only [Act.put, List.getElem_toArray, List.getElem_cons_zero, List.getElem_cons_succ, List.setIfInBounds_toArray, List.set_cons_zero, List.set_cons_succ])
      refine wpAnyH_take (i := 5) (v := .int .i64 4) rfl (by kernel_rfl) (by kernel_rfl) (by kernel_rfl) (fun _ _ _ h => h) (Or.inl ⟨by kernel_rfl, fun _ _ => by go_simp⟩) (by assumption) ?_
      (try simp only [Act.put, List.getElem_toArray, List.getElem_cons_zero, List.getElem_cons_succ, List.setIfInBounds_toArray, List.set_cons_zero, List.set_cons_succ])
      refine wpAnyH_take (i := 6) (v := .int .i64 (D1 : Int)) rfl (by kernel_rfl) (by kernel_rfl) (by kernel_rfl) (fun _ _ _ h => h) (Or.inl ⟨by kernel_rfl, fun _ _ => by go_simp⟩) (by assumption) ?_
      (try simp only [Act.put, List.getElem_toArray, List.getElem_cons_zero, List.getElem_cons_succ, List.setIfInBounds_toArray, List.set_cons_zero, List.set_cons_succ])
      refine wpAnyH_take (i := 7) (v := .int .i64 2) rfl (by kernel_rfl) (by kernel_rfl) (by kernel_rfl) (fun _ _ _ h => h) (Or.inl ⟨by kernel_rfl, fun _ _ => by go_simp⟩) (by assumption) ?_
      (try simp only [Act.put, List.getElem_toArray, List.getElem_cons_zero, List.getElem_cons_succ, List.setIfInBounds_toArray, List.set_cons_zero, List.set_cons_succ])
      refine wpAnyH_take (i := 8) (v := .int .i64 (E1 : Int)) rfl (by kernel_rfl) (by kernel_rfl) (by kernel_rfl) (fun _ _ _ h => h) (Or.inl ⟨by kernel_rfl, fun _ _ => by go_simp⟩) (by assumption) ?_
      (try simp only [Act.put, List.getElem_toArray, List.getElem_cons_zero, List.getElem_cons_succ, List.setIfInBounds_toArray, List.set_cons_zero, List.set_cons_succ])
      refine wpAnyH_take (i := 9) (v := .int .i64 k) rfl (by kernel_rfl) (by kernel_rfl) (by kernel_rfl) (fun _ _ _ h => h) (Or.inl ⟨by kernel_rfl, fun _ _ => by go_simp⟩) (by assumption) ?_
      (try simp only [Act.put, List.getElem_toArray, List.getElem_cons_zero, List.getElem_cons_succ, List.setIfInBounds_toArray, List.set_cons_zero, List.set_cons_succ])
      refine wpAnyH_take (i := 10) (v := .int .i64 2) rfl (by kernel_rfl) (by kernel_rfl) (by kernel_rfl) (fun _ _ _ h => h) (Or.inl ⟨by kernel_rfl, fun _ _ => by go_simp⟩) (by assumption) ?_
      (try simp only [Act.put, List.getElem_toArray, List.getElem_cons_zero, List.getElem_cons_succ, List.setIfInBounds_toArray, List.set_cons_zero, List.set_cons_succ])
      refine wpAnyH_take (i := 11) (v := .int .i64 (D2 : Int)) rfl (by kernel_rfl) (by kernel_rfl) (by kernel_rfl) (fun _ _ _ h => h) (Or.inl ⟨by kernel_rfl, fun _ _ => by go_simp⟩) (by assumption) ?_
      (try simp only [Act.put, List.getElem_toArray, List.getElem_cons_zero, List.getElem_cons_succ, List.setIfInBounds_toArray, List.set_cons_zero, List.set_cons_succ])
      refine wpAnyH_take (i := 12) (v := .int .i64 2) rfl (by kernel_rfl) (by kernel_rfl) (by kernel_rfl) (fun _ _ _ h => h) (Or.inl ⟨by kernel_rfl, fun _ _ => by go_simp⟩) (by assumption) ?_
      (try simp only [Act.put, List.getElem_toArray, List.getElem_cons_zero, List.getElem_cons_succ, List.setIfInBounds_toArray, List.set_cons_zero, List.set_cons_succ])
      refine wpAnyH_take (i := 13) (v := .int .i64 (D3 : Int)) rfl (by kernel_rfl) (by kernel_rfl) (by kernel_rfl) (fun _ _ _ h => h) (Or.inl ⟨by kernel_rfl, fun _ _ => by go_simp⟩) (by assumption) ?_
      (try simp only [Act.put, List.getElem_toArray, List.getElem_cons_zero, List.getElem_cons_succ, List.setIfInBounds_toArray, List.set_cons_zero, List.set_cons_succ])
      refine wpAnyH_take (i := 14) (v := .int .i64 (E2 : Int)) rfl (by kernel_rfl) (by kernel_rfl) (by kernel_rfl) (fun _ _ _ h => h) (Or.inl ⟨by kernel_rfl, fun _ _ => by go_simp⟩) (by assumption) ?_
      (try simp only [Act.put, List.getElem_toArray, List.getElem_cons_zero, List.getElem_cons_succ, List.setIfInBounds_toArray, List.set_cons_zero, List.set_cons_succ])
      refine wpAnyH_take (i := 15) (v := .int .i64 k) rfl (by kernel_rfl) (by kernel_rfl) (by kernel_rfl) (fun _ _ _ h => h) (Or.inl ⟨by kernel_rfl, fun _ _ => by go_simp⟩) (by assumption) ?_
      (try simp only [Act.put, List.getElem_toArray, List.getElem_cons_zero, List.getElem_cons_succ, List.setIfInBounds_toArray, List.set_cons_zero, List.set_cons_succ])
      refine wpAnyH_take (i := 16) (v := .int .i64 2) rfl (by kernel_rfl) (by kernel_rfl) (by kernel_rfl) (fun _ _ _ h => h) (Or.inl ⟨by kernel_rfl, fun _ _ => by go_simp⟩) (by assumption) ?_
      (try simp only [Act.put, List.getElem_toArray, List.getElem_cons_zero, List.getElem_cons_succ, List.setIfInBounds_toArray, List.set_cons_zero, List.set_cons_succ])
      refine wpAnyH_take (i := 17) (v := .int .i64 (D4 : Int)) rfl (by kernel_rfl) (by kernel_rfl) (by kernel_rfl) (fun _ _ _ h => h) (Or.inl ⟨by kernel_rfl, fun _ _ => by go_simp⟩) (by assumption) ?_
      (try simp only [Act.put, List.getElem_toArray, List.getElem_cons_zero, List.getElem_cons_succ, List.setIfInBounds_toArray, List.set_cons_zero, List.set_cons_succ])
      refine wpAnyH_take (i := 18) (v := .int .i64 (E3 : Int)) rfl (by kernel_rfl) (by kernel_rfl) (by kernel_rfl) (fun _ _ _ h => h) (Or.inl ⟨by kernel_rfl, fun _ _ => by go_simp⟩) (by assumption) ?_
      (try simp only [Act.put, List.getElem_toArray, List.getElem_cons_zero, List.getElem_cons_succ, List.setIfInBounds_toArray, List.set_cons_zero, List.set_cons_succ])
      refine wpAnyH_take (i := 19) (v := .int .i64 2) rfl (by kernel_rfl) (by kernel_rfl) (by kernel_rfl) (fun _ _ _ h => h) (Or.inl ⟨by kernel_rfl, fun _ _ => by go_simp⟩) (by assumption) ?_
      (try simp only [Act.put, List.getElem_toArray, List.getElem_cons_zero, List.getElem_cons_succ, List.setIfInBounds_toArray, List.set_cons_zero, List.set_cons_succ])
      refine wpAnyH_take (i := 20) (v := .int .i64 (R : Int)) rfl (by kernel_rfl) (by kernel_rfl) (by kernel_rfl) (fun _ _ _ h => h) (Or.inl ⟨by kernel_rfl, fun _ _ => by go_simp⟩) (by assumption) ?_
      (try simp only [Act.put, List.getElem_toArray, List.getElem_cons_zero, List.getElem_cons_succ, List.setIfInBounds_toArray, List.set_cons_zero, List.set_cons_succ])
      refine wpAnyH_ready (rs := [1, 21]) (by kernel_rfl) (by simp) ?_
      refine (AllReadyH.cons rfl (fun K hK => ?_) (AllReadyH.cons rfl (fun K hK => ?_) AllReadyH.nil))
      · go_simp
        refine hK.out _ _ cR0 (fun hHeld1 => ?_)
        clear hK K hHeld0
        (try simp only [Act.put, List.getElem_toArray, List.getElem_cons_zero, List.getElem_cons_succ, List.setIfInBounds_toArray, List.set_cons_zero, List.set_cons_succ])
        refine wpAnyH_ready (rs := [21]) (by kernel_rfl) (by simp) ?_
        refine (AllReadyH.cons rfl (fun K hK => ?_) AllReadyH.nil)
        have hownW := hown1
        have BGW := BG
        have BRW := BR
        have hTW := hTr
        have hzW : w0.heap.size ≤ wt1.heap.size := Nat.le_trans hzr (by omega)
        go_simp
        obtain ⟨wt2, Hwt2⟩ : ∃ x, Hid (x = wt1.alloc (.cells #[.int .i64 (R : Int)] 3)) := ⟨_, Lib.hid rfl⟩
        rw [← Hwt2.out]
        have hbwt2 : Below wt1.heap.size wt1 wt2 := by rw [Hwt2.out]; exact below_box _ _
        have Bwt2 : Blk wt2 wt1.heap.size 3 #[.int .i64 (R : Int)] := by rw [Hwt2.out]; exact Blk.new _ _ _
        have zwt2 : wt1.heap.size < wt2.heap.size := Bwt2.lt
        have ywt2 := hbwt2.size
        replace BG := BG.next hbwt2
        replace BR := BR.next hbwt2
        replace hown1 := own_next hown1 hbwt2
        replace hTr := hTr.trans (hbwt2.mono hTr.size)
        replace cG1 := keepc hbwt2 cG1
        replace cR0 := keepc hbwt2 cR0
        refine hK.out _ _ cR0 (fun hHeld2 => ?_)
        clear hK K hHeld1
        (try simp only [Act.put, List.getElem_toArray, List.getElem_cons_zero, List.getElem_cons_succ, List.setIfInBounds_toArray, List.set_cons_zero, List.set_cons_succ])
        refine wpAnyH_ready (rs := [22]) (by kernel_rfl) (by simp) ?_
        refine (AllReadyH.cons rfl (fun K hK => ?_) AllReadyH.nil)
        rw [Hwt2.out]
        refine step_app1 wt1 rfl (.tmp 16) (.tmp 36) 38 3 rfl (.int .i64 0) 8 Try.underlying38 info_int rfl (by decide) w0.heap.size k c A (ints L) (by rfl) hownW _ rfl (by rfl) (by omega) hzW ?_
        intro A2 c2 wt3 hown2 hg2 hb2
        rw [HNX.out] at hown2
        have B2 := BGW.below hb2 hle0
        have BR2 := BRW.below hb2 (by omega)
        replace cR0 := BR2.cell 0
        simp at cR0
        have T2 := hTW.trans (hb2.mono (by omega))
        have hz2 := hb2.size
        refine hK.out _ _ cR0 (fun hHeld3 => ?_)
        clear hK K hHeld2
        (try simp only [Act.put, List.getElem_toArray, List.getElem_cons_zero, List.getElem_cons_succ, List.setIfInBounds_toArray, List.set_cons_zero, List.set_cons_succ])
        refine wpAnyH_take (i := 23) (v := .pointer (some ⟨(w.heap.size + 1), 1, none⟩)) rfl (by kernel_rfl) (by kernel_rfl) (by kernel_rfl) (fun _ _ _ h => h) (Or.inl ⟨by kernel_rfl, fun _ _ => by go_simp⟩) (by assumption) ?_
        (try simp only [Act.put, List.getElem_toArray, List.getElem_cons_zero, List.getElem_cons_succ, List.setIfInBounds_toArray, List.set_cons_zero, List.set_cons_succ])
        refine wpAnyH_ready (rs := [24]) (by kernel_rfl) (by simp) ?_
        refine (AllReadyH.cons rfl (fun K hK => ?_) AllReadyH.nil)
        have f21 := B2.frozen 1
        have c21 := B2.cell 1
        simp at c21
        go_simp
        obtain ⟨wt4, Hwt4⟩ : ∃ x, Hid (x = wt3.setCell ⟨w.heap.size + 1, 1, none⟩ (.slice A2 (k + 1) c2)) := ⟨_, rfl⟩
        rw [← Hwt4.out]
        have B3 : Blk wt4 (w.heap.size + 1) 72 #[.int .i64 3, .slice A2 (k + 1) c2] := by rw [Hwt4.out]; simpa using B2.set_ 1 (.slice A2 (k + 1) c2)
        have BR3 : Blk wt4 w.heap.size 72 #[.int .i64 0, .slice none 0 0] := by rw [Hwt4.out]; exact BR2.far (by simp) _
        have hown3 : wt4.ownsRow w0.heap.size 3 1 (.slice A2 (k + 1) c2) (k + 1) (ints (L ++ [(R : Int)])) := by rw [Hwt4.out]; exact own_same hown2 fun b hb => Below.heap_setCell _ _ _ _ (fun e => by have := (hown2.lt b hb).1; rw [e] at this; simp at this; omega)
        have T3 : Below w.heap.size w wt4 := by rw [Hwt4.out]; exact T2.setCell (p := ⟨w.heap.size + 1, 1, none⟩) (by simp) _
        have hz3 : w0.heap.size ≤ wt4.heap.size := by rw [Hwt4.out]; simpa using Nat.le_trans hzW hz2
        replace cR0 := BR3.cell 0
        simp at cR0
        refine hK.out _ _ cR0 (fun hHeld4 => ?_)
        clear hK K hHeld3
        (try simp only [Act.put, List.getElem_toArray, List.getElem_cons_zero, List.getElem_cons_succ, List.setIfInBounds_toArray, List.set_cons_zero, List.set_cons_succ])
        refine wpAnyH_done (by kernel_rfl) ?_ _
        clear f1 f1t f2 f2t f3 f3t f4 f4t f5 f6 f7 f8 f8t g1 g2 g3 g4 g5 g6 g7 g8 g0
        go_wp2_with fail
        go_roundw
        case rel => exact ⟨k + 1, A2, c2, _, by omega, by go_num, B3, hown3, HL2, BR3, T3, hz3⟩
        case measure => simp [intOf]; omega
      · have hownW := hown1
        have BGW := BG
        have BRW := BR
        have hTW := hTr
        have hzW : w0.heap.size ≤ wt1.heap.size := Nat.le_trans hzr (by omega)
        go_simp
        obtain ⟨wt5, Hwt5⟩ : ∃ x, Hid (x = wt1.alloc (.cells #[.int .i64 (R : Int)] 3)) := ⟨_, Lib.hid rfl⟩
        rw [← Hwt5.out]
        have hbwt5 : Below wt1.heap.size wt1 wt5 := by rw [Hwt5.out]; exact below_box _ _
        have Bwt5 : Blk wt5 wt1.heap.size 3 #[.int .i64 (R : Int)] := by rw [Hwt5.out]; exact Blk.new _ _ _
        have zwt5 : wt1.heap.size < wt5.heap.size := Bwt5.lt
        have ywt5 := hbwt5.size
        replace BG := BG.next hbwt5
        replace BR := BR.next hbwt5
        replace hown1 := own_next hown1 hbwt5
        replace hTr := hTr.trans (hbwt5.mono hTr.size)
        replace cG1 := keepc hbwt5 cG1
        replace cR0 := keepc hbwt5 cR0
        refine hK.out _ _ cR0 (fun hHeld1 => ?_)
        clear hK K hHeld0
        (try simp only [Act.put, List.getElem_toArray, List.getElem_cons_zero, List.getElem_cons_succ, List.setIfInBounds_toArray, List.set_cons_zero, List.set_cons_succ])
        refine wpAnyH_ready (rs := [1]) (by kernel_rfl) (by simp) ?_
        refine (AllReadyH.cons rfl (fun K hK => ?_) AllReadyH.nil)
        go_simp
        refine hK.out _ _ cR0 (fun hHeld2 => ?_)
        clear hK K hHeld1
        (try simp only [Act.put, List.getElem_toArray, List.getElem_cons_zero, List.getElem_cons_succ, List.setIfInBounds_toArray, List.set_cons_zero, List.set_cons_succ])
        refine wpAnyH_ready (rs := [22]) (by kernel_rfl) (by simp) ?_
        refine (AllReadyH.cons rfl (fun K hK => ?_) AllReadyH.nil)
        rw [Hwt5.out]
        refine step_app1 wt1 rfl (.tmp 16) (.tmp 36) 38 3 rfl (.int .i64 0) 8 Try.underlying38 info_int rfl (by decide) w0.heap.size k c A (ints L) (by rfl) hownW _ rfl (by rfl) (by omega) hzW ?_
        intro A2 c2 wt6 hown2 hg2 hb2
        rw [HNX.out] at hown2
        have B2 := BGW.below hb2 hle0
        have BR2 := BRW.below hb2 (by omega)
        replace cR0 := BR2.cell 0
        simp at cR0
        have T2 := hTW.trans (hb2.mono (by omega))
        have hz2 := hb2.size
        refine hK.out _ _ cR0 (fun hHeld3 => ?_)
        clear hK K hHeld2
        (try simp only [Act.put, List.getElem_toArray, List.getElem_cons_zero, List.getElem_cons_succ, List.setIfInBounds_toArray, List.set_cons_zero, List.set_cons_succ])
        refine wpAnyH_take (i := 23) (v := .pointer (some ⟨(w.heap.size + 1), 1, none⟩)) rfl (by kernel_rfl) (by kernel_rfl) (by kernel_rfl) (fun _ _ _ h => h) (Or.inl ⟨by kernel_rfl, fun _ _ => by go_simp⟩) (by assumption) ?_
        (try simp only [Act.put, List.getElem_toArray, List.getElem_cons_zero, List.getElem_cons_succ, List.setIfInBounds_toArray, List.set_cons_zero, List.set_cons_succ])
        refine wpAnyH_ready (rs := [24]) (by kernel_rfl) (by simp) ?_
        refine (AllReadyH.cons rfl (fun K hK => ?_) AllReadyH.nil)
        have f21 := B2.frozen 1
        have c21 := B2.cell 1
        simp at c21
        go_simp
        obtain ⟨wt7, Hwt7⟩ : ∃ x, Hid (x = wt6.setCell ⟨w.heap.size + 1, 1, none⟩ (.slice A2 (k + 1) c2)) := ⟨_, rfl⟩
        rw [← Hwt7.out]
        have B3 : Blk wt7 (w.heap.size + 1) 72 #[.int .i64 3, .slice A2 (k + 1) c2] := by rw [Hwt7.out]; simpa using B2.set_ 1 (.slice A2 (k + 1) c2)
        have BR3 : Blk wt7 w.heap.size 72 #[.int .i64 0, .slice none 0 0] := by rw [Hwt7.out]; exact BR2.far (by simp) _
        have hown3 : wt7.ownsRow w0.heap.size 3 1 (.slice A2 (k + 1) c2) (k + 1) (ints (L ++ [(R : Int)])) := by rw [Hwt7.out]; exact own_same hown2 fun b hb => Below.heap_setCell _ _ _ _ (fun e => by have := (hown2.lt b hb).1; rw [e] at this; simp at this; omega)
        have T3 : Below w.heap.size w wt7 := by rw [Hwt7.out]; exact T2.setCell (p := ⟨w.heap.size + 1, 1, none⟩) (by simp) _
        have hz3 : w0.heap.size ≤ wt7.heap.size := by rw [Hwt7.out]; simpa using Nat.le_trans hzW hz2
        replace cR0 := BR3.cell 0
        simp at cR0
        refine hK.out _ _ cR0 (fun hHeld4 => ?_)
        clear hK K hHeld3
        (try simp only [Act.put, List.getElem_toArray, List.getElem_cons_zero, List.getElem_cons_succ, List.setIfInBounds_toArray, List.set_cons_zero, List.set_cons_succ])
        refine wpAnyH_done (by kernel_rfl) ?_ _
        clear f1 f1t f2 f2t f3 f3t f4 f4t f5 f6 f7 f8 f8t g1 g2 g3 g4 g5 g6 g7 g8 g0
        go_wp2_with fail
        go_roundw
        case rel => exact ⟨k + 1, A2, c2, _, by omega, by go_num, B3, hown3, HL2, BR3, T3, hz3⟩
        case measure => simp [intOf]; omega
    · obtain rfl : k = 8 := by omega
      have cG0 := BG.cell 0
      have cG1 := BG.cell 1
      have cR0 := BR.cell 0
      have cR1 := BR.cell 1
      simp at cG0 cG1 cR0 cR1
      have fR0 := BR.frozen 0
      have fR1 := BR.frozen 1
      obtain ⟨wf, HWF⟩ : ∃ wf, Hid (wf = (wr.setCell ⟨w.heap.size, 0, none⟩ (.int .i64 3)).setCell ⟨w.heap.size, 1, none⟩ (.slice A 8 c)) := ⟨_, rfl⟩
      have BLF : Hid (Blk wf w.heap.size 72 #[.int .i64 3, .slice A 8 c]) := by show Blk _ _ _ _; rw [HWF.out]; simpa using (BR.set_ 0 (.int .i64 3)).set_ 1 (.slice A 8 c)
      have OF : Hid (wf.ownsRow w0.heap.size 3 1 (.slice A 8 c) 8 (ints L)) := by show World.ownsRow _ _ _ _ _ _ _; rw [HWF.out]; exact own_same (own_same hown fun b hb => Below.heap_setCell _ _ _ _ (fun e => by have := (hown.lt b hb).1; rw [e] at this; simp at this; omega)) fun b hb => Below.heap_setCell _ _ _ _ (fun e => by have := (hown.lt b hb).1; rw [e] at this; simp at this; omega)
      have TF : Hid (Below w.heap.size w wf) := by show Below _ _ _; rw [HWF.out]; exact (hTr.setCell (p := ⟨w.heap.size, 0, none⟩) (Nat.le_refl _) _).setCell (p := ⟨w.heap.size, 1, none⟩) (Nat.le_refl _) _
      clear BG BR hown hTr
      go_wp2_with fail
      rw [← HWF.out]
      (try simp only [Exit.inBlock, Exit.then])
      refine bodyPost_ret (v := .agg #[.int .i64 3, .slice A 8 c]) (results_cell_row rfl _ _ w.heap.size 72 #[.int .i64 3, .slice A 8 c] (0, 0) _ (by simp) BLF.out Try.underlying72 rfl (by kernel_rfl)) rfl ?_
      have hoo := own_opE (w := w) (w' := wf) (a := 3) ⟨by omega, by omega⟩ HL.out.1 (own_mono OF.out (by omega)) fun v hv => by have := HL.out.2 v hv; exact ⟨by omega, by omega⟩
      exact ⟨L, ⟨[.int .i64 3, .slice A 8 c], _, rfl, hoo.1, hoo.2, TF.out⟩, HL.out.1, HL.out.2⟩
theorem l2Affine3_any (w : World) : Calls Try.prog 83 #[.int .i64 3] w fun e w' => ∃ L, ToE shOp w (3, L) e w' ∧ L.length = 27 ∧ ∀ v ∈ L, 0 ≤ v ∧ v ≤ 2 := by
  obtain ⟨w0, hw0, T0, hsz0, BR, BG⟩ := boxes2 w #[.int .i64 0, .slice none 0 0] #[.int .i64 3, .slice none 0 0] 72 72
  have hown0 : w0.ownsRow w0.heap.size 3 1 (.slice none 0 0) 0 (ints []) := ⟨rfl, .inl ⟨rfl, rfl⟩⟩
  have HW0 := Lib.hid hw0
  have hle0 : w.heap.size + 1 < w0.heap.size := by omega
  clear hw0 hsz0
  go_enter Try.func83, Try.ntmps83
  go_upto_region 2 with fail
  rw [← HW0.out]
  go_wp2_with fail
  go_loopw [4] (fun i wr => ∃ (k : Nat) (A : Option Addr) (c : Nat) (L : List Int), k ≤ 27 ∧ i = .int .i64 k ∧ Blk wr (w.heap.size + 1) 72 #[.int .i64 3, .slice A k c] ∧ wr.ownsRow w0.heap.size 3 1 (.slice A k c) k (ints L) ∧ Hid (L.length = k ∧ ∀ v ∈ L, 0 ≤ v ∧ v ≤ 2) ∧ Blk wr w.heap.size 72 #[.int .i64 0, .slice none 0 0] ∧ Below w.heap.size w wr ∧ w0.heap.size ≤ wr.heap.size) (fun i _ => 27 - (intOf i).toNat)
  case atStart => exact ⟨0, none, 0, [], Nat.zero_le _, rfl, BG, hown0, Lib.hid ⟨rfl, fun v hv => by cases hv⟩, BR, T0, Nat.le_refl _⟩
  case round =>
    clear BG hown0 BR T0
    obtain ⟨k, A, c, L, hk, rfl, BG, hown, HL, BR, hTr, hzr⟩ := hrel
    by_cases hlt : k < 27
    · have hk0 : (0 : Int) ≤ (k : Int) := by omega
      have hk1 : (k : Int) < 27 := by omega
      have cG1 := BG.cell 1
      simp at cG1
      have hown1 := hown
      have hzz := hzr
      have cR0 := BR.cell 0
      simp at cR0
      obtain ⟨D1, hD1⟩ : ∃ D, k / 9 = D := ⟨_, rfl⟩
      obtain ⟨D2, hD2⟩ : ∃ D, k / 3 = D := ⟨_, rfl⟩
      obtain ⟨D3, hD3⟩ : ∃ D, D2 % 3 = D := ⟨_, rfl⟩
      obtain ⟨D4, hD4⟩ : ∃ D, k % 3 = D := ⟨_, rfl⟩
      obtain ⟨E1, hE1⟩ : ∃ D, D1 + 3 = D := ⟨_, rfl⟩
      obtain ⟨E2, hE2⟩ : ∃ D, E1 - D3 = D := ⟨_, rfl⟩
      obtain ⟨E3, hE3⟩ : ∃ D, E2 + D4 = D := ⟨_, rfl⟩
      obtain ⟨R, hR⟩ : ∃ D, E3 % 3 = D := ⟨_, rfl⟩
      have f1 : (k : Int) / 9 = (D1 : Int) := by omega
      have f1t : (k : Int).tdiv 9 = (D1 : Int) := by rw [Int.tdiv_eq_ediv_of_nonneg hk0]; exact f1
      have f2 : (k : Int) / 3 = (D2 : Int) := by omega
      have f2t : (k : Int).tdiv 3 = (D2 : Int) := by rw [Int.tdiv_eq_ediv_of_nonneg hk0]; exact f2
      have f3 : (D2 : Int) % 3 = (D3 : Int) := by omega
      have f3t : (D2 : Int).tmod 3 = (D3 : Int) := by rw [Int.tmod_eq_emod_of_nonneg (by omega)]; exact f3
      have f4 : (k : Int) % 3 = (D4 : Int) := by omega
      have f4t : (k : Int).tmod 3 = (D4 : Int) := by rw [Int.tmod_eq_emod_of_nonneg hk0]; exact f4
      have f5 : (D1 : Int) + 3 = (E1 : Int) := by omega
      have f6 : (E1 : Int) - (D3 : Int) = (E2 : Int) := by omega
      have f7 : (E2 : Int) + (D4 : Int) = (E3 : Int) := by omega
      have f8 : (E3 : Int) % 3 = (R : Int) := by omega
      have f8t : (E3 : Int).tmod 3 = (R : Int) := by rw [Int.tmod_eq_emod_of_nonneg (by omega)]; exact f8
      have g1 : IntKind.i64.wrap (D1 : Int) = (D1 : Int) := by rw [IntKind.wrap_i64]; omega
      have g2 : IntKind.i64.wrap (D2 : Int) = (D2 : Int) := by rw [IntKind.wrap_i64]; omega
      have g3 : IntKind.i64.wrap (D3 : Int) = (D3 : Int) := by rw [IntKind.wrap_i64]; omega
      have g4 : IntKind.i64.wrap (D4 : Int) = (D4 : Int) := by rw [IntKind.wrap_i64]; omega
      have g5 : IntKind.i64.wrap (E1 : Int) = (E1 : Int) := by rw [IntKind.wrap_i64]; omega
      have g6 : IntKind.i64.wrap (E2 : Int) = (E2 : Int) := by rw [IntKind.wrap_i64]; omega
      have g7 : IntKind.i64.wrap (E3 : Int) = (E3 : Int) := by rw [IntKind.wrap_i64]; omega
      have g8 : IntKind.i64.wrap (R : Int) = (R : Int) := by rw [IntKind.wrap_i64]; omega
      have g0 : IntKind.i64.wrap 9 = 9 := by rw [IntKind.wrap_i64]; omega
      have HL2 : Hid ((L ++ [(R : Int)]).length = k + 1 ∧ ∀ v ∈ L ++ [(R : Int)], 0 ≤ v ∧ v ≤ 2) := by
        refine ⟨by rw [List.length_append, HL.out.1]; rfl, fun v hv => ?_⟩
        rcases List.mem_append.1 hv with hv | hv
        · exact HL.out.2 v hv
        · rw [List.mem_singleton.1 hv]; omega
      clear hD1 hD2 hD3 hD4 hE1 hE2 hE3 hR
      have HNX : Hid (ints L ++ [.int .i64 (R : Int)] = ints (L ++ [(R : Int)])) := by show _ = _; simp [ints]
      go_upto_region 5 with fail
      refine wp_region_held_drew (S := fun w' => w'.cell? ⟨w.heap.size, 0, none⟩ = some (.int .i64 0)) (by kernel_rfl) cR0 (fun hHeld0 => ?_)
      obtain ⟨wt1, Hwt1⟩ : ∃ x, Hid (x = World.drew wr) := ⟨_, rfl⟩
      have hbwt1 : Below wr.heap.size wr wt1 := by rw [Hwt1.out]; exact (Below.refl _ _).drew
      rw [← Hwt1.out] at hHeld0 ⊢
      have ywt1 := hbwt1.size
      replace BG := BG.next hbwt1
      replace BR := BR.next hbwt1
      replace hown1 := own_next hown1 hbwt1
      replace hTr := hTr.trans (hbwt1.mono hTr.size)
      replace cG1 := keepc hbwt1 cG1
      replace cR0 := keepc hbwt1 cR0
      refine wpAnyH_take (i := 0) (v := .pointer (some ⟨(w.heap.size + 1), 1, none⟩)) rfl (by kernel_rfl) (by kernel_rfl) (by kernel_rfl) (fun _ _ _ h => h) (Or.inl ⟨by kernel_rfl, fun _ _ => by go_simp⟩) (by assumption) ?_
      (try simp only [Act.put, List.getElem_toArray, List.getElem_cons_zero, List.getElem_cons_succ, List.setIfInBounds_toArray, List.set_cons_zero, List.set_cons_succ])
      refine wpAnyH_take (i := 2) (v := .int .i64 k) rfl (by kernel_rfl) (by kernel_rfl) (by kernel_rfl) (fun _ _ _ h => h) (Or.inl ⟨by kernel_rfl, fun _ _ => by go_simp⟩) (by assumption) ?_
      (try simp only [Act.put, List.getElem_toArray, List.getElem_cons_zero, List.getElem_cons_succ, List.setIfInBounds_toArray, List.set_cons_zero, List.set_cons_succ])
      refine wpAnyH_take (i := 3) (v := .int .i64 3) rfl (by kernel_rfl) (by kernel_rfl) (by kernel_rfl) (fun _ _ _ h => h) (Or.inl ⟨by kernel_rfl, fun _ _ => by go_simp⟩) (by assumption) ?_
      (try simp only [Act.put, List.getElem_toArray, List.getElem_cons_zero, List.getElem_cons_succ, List.setIfInBounds_toArray, List.set_cons_zero, List.set_cons_succ])
      refine wpAnyH_take (i := 4) (v := .int .i64 3) rfl (by kernel_rfl) (by kernel_rfl) (by kernel_rfl) (fun _ _ _ h => h) (Or.inl ⟨by kernel_rfl, fun _ _ => by go_simp⟩) (by assumption) ?_
      (try simp only [Act.put, List.getElem_toArray, List.getElem_cons_zero, List.getElem_cons_succ, List.setIfInBounds_toArray, List.set_cons_zero, List.set_cons_succ])
      refine wpAnyH_take (i := 5) (v := .int .i64 9) rfl (by kernel_rfl) (by kernel_rfl) (by kernel_rfl) (fun _ _ _ h => h) (Or.inl ⟨by kernel_rfl, fun _ _ => by go_simp⟩) (by assumption) ?_
      (try simp only [Act.put, List.getElem_toArray, List.getElem_cons_zero, List.getElem_cons_succ, List.setIfInBounds_toArray, List.set_cons_zero, List.set_cons_succ])
      refine wpAnyH_take (i := 6) (v := .int .i64 (D1 : Int)) rfl (by kernel_rfl) (by kernel_rfl) (by kernel_rfl) (fun _ _ _ h => h) (Or.inl ⟨by kernel_rfl, fun _ _ => by go_simp⟩) (by assumption) ?_
      (try simp only [Act.put, List.getElem_toArray, List.getElem_cons_zero, List.getElem_cons_succ, List.setIfInBounds_toArray, List.set_cons_zero, List.set_cons_succ])
      refine wpAnyH_take (i := 7) (v := .int .i64 3) rfl (by kernel_rfl) (by kernel_rfl) (by kernel_rfl) (fun _ _ _ h => h) (Or.inl ⟨by kernel_rfl, fun _ _ => by go_simp⟩) (by assumption) ?_
      (try simp only [Act.put, List.getElem_toArray, List.getElem_cons_zero, List.getElem_cons_succ, List.setIfInBounds_toArray, List.set_cons_zero, List.set_cons_succ])
      refine wpAnyH_take (i := 8) (v := .int .i64 (E1 : Int)) rfl (by kernel_rfl) (by kernel_rfl) (by kernel_rfl) (fun _ _ _ h => h) (Or.inl ⟨by kernel_rfl, fun _ _ => by go_simp⟩) (by assumption) ?_
      (try simp only [Act.put, List.getElem_toArray, List.getElem_cons_zero, List.getElem_cons_succ, List.setIfInBounds_toArray, List.set_cons_zero, List.set_cons_succ])
      refine wpAnyH_take (i := 9) (v := .int .i64 k) rfl (by kernel_rfl) (by kernel_rfl) (by kernel_rfl) (fun _ _ _ h => h) (Or.inl ⟨by kernel_rfl, fun _ _ => by go_simp⟩) (by assumption) ?_
      (try simp only [Act.put, List.getElem_toArray, List.getElem_cons_zero, List.getElem_cons_succ, List.setIfInBounds_toArray, List.set_cons_zero, List.set_cons_succ])
      refine wpAnyH_take (i := 10) (v := .int .i64 3) rfl (by kernel_rfl) (by kernel_rfl) (by kernel_rfl) (fun _ _ _ h => h) (Or.inl ⟨by kernel_rfl, fun _ _ => by go_simp⟩) (by assumption) ?_
      (try simp only [Act.put, List.getElem_toArray, List.getElem_cons_zero, List.getElem_cons_succ, List.setIfInBounds_toArray, List.set_cons_zero, List.set_cons_succ])
      refine wpAnyH_take (i := 11) (v := .int .i64 (D2 : Int)) rfl (by kernel_rfl) (by kernel_rfl) (by kernel_rfl) (fun _ _ _ h => h) (Or.inl ⟨by kernel_rfl, fun _ _ => by go_simp⟩) (by assumption) ?_
      (try simp only [Act.put, List.getElem_toArray, List.getElem_cons_zero, List.getElem_cons_succ, List.setIfInBounds_toArray, List.set_cons_zero, List.set_cons_succ])
      refine wpAnyH_take (i := 12) (v := .int .i64 3) rfl (by kernel_rfl) (by kernel_rfl) (by kernel_rfl) (fun _ _ _ h => h) (Or.inl ⟨by kernel_rfl, fun _ _ => by go_simp⟩) (by assumption) ?_
      (try simp only [Act.put, List.getElem_toArray, List.getElem_cons_zero, List.getElem_cons_succ, List.setIfInBounds_toArray, List.set_cons_zero, List.set_cons_succ])
      refine wpAnyH_take (i := 13) (v := .int .i64 (D3 : Int)) rfl (by kernel_rfl) (by kernel_rfl) (by kernel_rfl) (fun _ _ _ h => h) (Or.inl ⟨by kernel_rfl, fun _ _ => by go_simp⟩) (by assumption) ?_
      (try simp only [Act.put, List.getElem_toArray, List.getElem_cons_zero, List.getElem_cons_succ, List.setIfInBounds_toArray, List.set_cons_zero, List.set_cons_succ])
      refine wpAnyH_take (i := 14) (v := .int .i64 (E2 : Int)) rfl (by kernel_rfl) (by kernel_rfl) (by kernel_rfl) (fun _ _ _ h => h) (Or.inl ⟨by kernel_rfl, fun _ _ => by go_simp⟩) (by assumption) ?_
      (try simp only [Act.put, List.getElem_toArray, List.getElem_cons_zero, List.getElem_cons_succ, List.setIfInBounds_toArray, List.set_cons_zero, List.set_cons_succ])
      refine wpAnyH_take (i := 15) (v := .int .i64 k) rfl (by kernel_rfl) (by kernel_rfl) (by kernel_rfl) (fun _ _ _ h => h) (Or.inl ⟨by kernel_rfl, fun _ _ => by go_simp⟩) (by assumption) ?_
      (try simp only [Act.put, List.getElem_toArray, List.getElem_cons_zero, List.getElem_cons_succ, List.setIfInBounds_toArray, List.set_cons_zero, List.set_cons_succ])
      refine wpAnyH_take (i := 16) (v := .int .i64 3) rfl (by kernel_rfl) (by kernel_rfl) (by kernel_rfl) (fun _ _ _ h => h) (Or.inl ⟨by kernel_rfl, fun _ _ => by go_simp⟩) (by assumption) ?_
      (try simp only [Act.put, List.getElem_toArray, List.getElem_cons_zero, List.getElem_cons_succ, List.setIfInBounds_toArray, List.set_cons_zero, List.set_cons_succ])
      refine wpAnyH_take (i := 17) (v := .int .i64 (D4 : Int)) rfl (by kernel_rfl) (by kernel_rfl) (by kernel_rfl) (fun _ _ _ h => h) (Or.inl ⟨by kernel_rfl, fun _ _ => by go_simp⟩) (by assumption) ?_
      (try simp only [Act.put, List.getElem_toArray, List.getElem_cons_zero, List.getElem_cons_succ, List.setIfInBounds_toArray, List.set_cons_zero, List.set_cons_succ])
      refine wpAnyH_take (i := 18) (v := .int .i64 (E3 : Int)) rfl (by kernel_rfl) (by kernel_rfl) (by kernel_rfl) (fun _ _ _ h => h) (Or.inl ⟨by kernel_rfl, fun _ _ => by go_simp⟩) (by assumption) ?_
      (try simp only [Act.put, List.getElem_toArray, List.getElem_cons_zero, List.getElem_cons_succ, List.setIfInBounds_toArray, List.set_cons_zero, List.set_cons_succ])
      refine wpAnyH_take (i := 19) (v := .int .i64 3) rfl (by kernel_rfl) (by kernel_rfl) (by kernel_rfl) (fun _ _ _ h => h) (Or.inl ⟨by kernel_rfl, fun _ _ => by go_simp⟩) (by assumption) ?_
      (try simp only [Act.put, List.getElem_toArray, List.getElem_cons_zero, List.getElem_cons_succ, List.setIfInBounds_toArray, List.set_cons_zero, List.set_cons_succ])
      refine wpAnyH_take (i := 20) (v := .int .i64 (R : Int)) rfl (by kernel_rfl) (by kernel_rfl) (by kernel_rfl) (fun _ _ _ h => h) (Or.inl ⟨by kernel_rfl, fun _ _ => by go_simp⟩) (by assumption) ?_
      (try simp only [Act.put, List.getElem_toArray, List.getElem_cons_zero, List.getElem_cons_succ, List.setIfInBounds_toArray, List.set_cons_zero, List.set_cons_succ])
      refine wpAnyH_ready (rs := [1, 21]) (by kernel_rfl) (by simp) ?_
      refine (AllReadyH.cons rfl (fun K hK => ?_) (AllReadyH.cons rfl (fun K hK => ?_) AllReadyH.nil))
      · go_simp
        refine hK.out _ _ cR0 (fun hHeld1 => ?_)
        clear hK K hHeld0
        (try simp only [Act.put, List.getElem_toArray, List.getElem_cons_zero, List.getElem_cons_succ, List.setIfInBounds_toArray, List.set_cons_zero, List.set_cons_succ])
        refine wpAnyH_ready (rs := [21]) (by kernel_rfl) (by simp) ?_
        refine (AllReadyH.cons rfl (fun K hK => ?_) AllReadyH.nil)
        have hownW := hown1
        have BGW := BG
        have BRW := BR
        have hTW := hTr
        have hzW : w0.heap.size ≤ wt1.heap.size := Nat.le_trans hzr (by omega)
        go_simp
        obtain ⟨wt2, Hwt2⟩ : ∃ x, Hid (x = wt1.alloc (.cells #[.int .i64 (R : Int)] 3)) := ⟨_, Lib.hid rfl⟩
        rw [← Hwt2.out]
        have hbwt2 : Below wt1.heap.size wt1 wt2 := by rw [Hwt2.out]; exact below_box _ _
        have Bwt2 : Blk wt2 wt1.heap.size 3 #[.int .i64 (R : Int)] := by rw [Hwt2.out]; exact Blk.new _ _ _
        have zwt2 : wt1.heap.size < wt2.heap.size := Bwt2.lt
        have ywt2 := hbwt2.size
        replace BG := BG.next hbwt2
        replace BR := BR.next hbwt2
        replace hown1 := own_next hown1 hbwt2
        replace hTr := hTr.trans (hbwt2.mono hTr.size)
        replace cG1 := keepc hbwt2 cG1
        replace cR0 := keepc hbwt2 cR0
        refine hK.out _ _ cR0 (fun hHeld2 => ?_)
        clear hK K hHeld1
        (try simp only [Act.put, List.getElem_toArray, List.getElem_cons_zero, List.getElem_cons_succ, List.setIfInBounds_toArray, List.set_cons_zero, List.set_cons_succ])
        refine wpAnyH_ready (rs := [22]) (by kernel_rfl) (by simp) ?_
        refine (AllReadyH.cons rfl (fun K hK => ?_) AllReadyH.nil)
        rw [Hwt2.out]
        refine step_app1 wt1 rfl (.tmp 16) (.tmp 36) 38 3 rfl (.int .i64 0) 8 Try.underlying38 info_int rfl (by decide) w0.heap.size k c A (ints L) (by rfl) hownW _ rfl (by rfl) (by omega) hzW ?_
        intro A2 c2 wt3 hown2 hg2 hb2
        rw [HNX.out] at hown2
        have B2 := BGW.below hb2 hle0
        have BR2 := BRW.below hb2 (by omega)
        replace cR0 := BR2.cell 0
        simp at cR0
        have T2 := hTW.trans (hb2.mono (by omega))
        have hz2 := hb2.size
        refine hK.out _ _ cR0 (fun hHeld3 => ?_)
        clear hK K hHeld2
        (try simp only [Act.put, List.getElem_toArray, List.getElem_cons_zero, List.getElem_cons_succ, List.setIfInBounds_toArray, List.set_cons_zero, List.set_cons_succ])
        refine wpAnyH_take (i := 23) (v := .pointer (some ⟨(w.heap.size + 1), 1, none⟩)) rfl (by kernel_rfl) (by kernel_rfl) (by kernel_rfl) (fun _ _ _ h => h) (Or.inl ⟨by kernel_rfl, fun _ _ => by go_simp⟩) (by assumption) ?_
        (try simp only [Act.put, List.getElem_toArray, List.getElem_cons_zero, List.getElem_cons_succ, List.setIfInBounds_toArray, List.set_cons_zero, List.set_cons_succ])
        refine wpAnyH_ready (rs := [24]) (by kernel_rfl) (by simp) ?_
        refine (AllReadyH.cons rfl (fun K hK => ?_) AllReadyH.nil)
        have f21 := B2.frozen 1
        have c21 := B2.cell 1
        simp at c21
        go_simp
        obtain ⟨wt4, Hwt4⟩ : ∃ x, Hid (x = wt3.setCell ⟨w.heap.size + 1, 1, none⟩ (.slice A2 (k + 1) c2)) := ⟨_, rfl⟩
        rw [← Hwt4.out]
        have B3 : Blk wt4 (w.heap.size + 1) 72 #[.int .i64 3, .slice A2 (k + 1) c2] := by rw [Hwt4.out]; simpa using B2.set_ 1 (.slice A2 (k + 1) c2)
        have BR3 : Blk wt4 w.heap.size 72 #[.int .i64 0, .slice none 0 0] := by rw [Hwt4.out]; exact BR2.far (by simp) _
        have hown3 : wt4.ownsRow w0.heap.size 3 1 (.slice A2 (k + 1) c2) (k + 1) (ints (L ++ [(R : Int)])) := by rw [Hwt4.out]; exact own_same hown2 fun b hb => Below.heap_setCell _ _ _ _ (fun e => by have := (hown2.lt b hb).1; rw [e] at this; simp at this; omega)
        have T3 : Below w.heap.size w wt4 := by rw [Hwt4.out]; exact T2.setCell (p := ⟨w.heap.size + 1, 1, none⟩) (by simp) _
        have hz3 : w0.heap.size ≤ wt4.heap.size := by rw [Hwt4.out]; simpa using Nat.le_trans hzW hz2
        replace cR0 := BR3.cell 0
        simp at cR0
        refine hK.out _ _ cR0 (fun hHeld4 => ?_)
        clear hK K hHeld3
        (try simp only [Act.put, List.getElem_toArray, List.getElem_cons_zero, List.getElem_cons_succ, List.setIfInBounds_toArray, List.set_cons_zero, List.set_cons_succ])
        refine wpAnyH_done (by kernel_rfl) ?_ _
        clear f1 f1t f2 f2t f3 f3t f4 f4t f5 f6 f7 f8 f8t g1 g2 g3 g4 g5 g6 g7 g8 g0
        go_wp2_with fail
        go_roundw
        case rel => exact ⟨k + 1, A2, c2, _, by omega, by go_num, B3, hown3, HL2, BR3, T3, hz3⟩
        case measure => simp [intOf]; omega
      · have hownW := hown1
        have BGW := BG
        have BRW := BR
        have hTW := hTr
        have hzW : w0.heap.size ≤ wt1.heap.size := Nat.le_trans hzr (by omega)
        go_simp
        obtain ⟨wt5, Hwt5⟩ : ∃ x, Hid (x = wt1.alloc (.cells #[.int .i64 (R : Int)] 3)) := ⟨_, Lib.hid rfl⟩
        rw [← Hwt5.out]
        have hbwt5 : Below wt1.heap.size wt1 wt5 := by rw [Hwt5.out]; exact below_box _ _
        have Bwt5 : Blk wt5 wt1.heap.size 3 #[.int .i64 (R : Int)] := by rw [Hwt5.out]; exact Blk.new _ _ _
        have zwt5 : wt1.heap.size < wt5.heap.size := Bwt5.lt
        have ywt5 := hbwt5.size
        replace BG := BG.next hbwt5
        replace BR := BR.next hbwt5
        replace hown1 := own_next hown1 hbwt5
        replace hTr := hTr.trans (hbwt5.mono hTr.size)
        replace cG1 := keepc hbwt5 cG1
        replace cR0 := keepc hbwt5 cR0
        refine hK.out _ _ cR0 (fun hHeld1 => ?_)
        clear hK K hHeld0
        (try simp only [Act.put, List.getElem_toArray, List.getElem_cons_zero, List.getElem_cons_succ, List.setIfInBounds_toArray, List.set_cons_zero, List.set_cons_succ])
        refine wpAnyH_ready (rs := [1]) (by kernel_rfl) (by simp) ?_
        refine (AllReadyH.cons rfl (fun K hK => ?_) AllReadyH.nil)
        go_simp
        refine hK.out _ _ cR0 (fun hHeld2 => ?_)
        clear hK K hHeld1
        (try simp only [Act.put, List.getElem_toArray, List.getElem_cons_zero, List.getElem_cons_succ, List.setIfInBounds_toArray, List.set_cons_zero, List.set_cons_succ])
        refine wpAnyH_ready (rs := [22]) (by kernel_rfl) (by simp) ?_
        refine (AllReadyH.cons rfl (fun K hK => ?_) AllReadyH.nil)
        rw [Hwt5.out]
        refine step_app1 wt1 rfl (.tmp 16) (.tmp 36) 38 3 rfl (.int .i64 0) 8 Try.underlying38 info_int rfl (by decide) w0.heap.size k c A (ints L) (by rfl) hownW _ rfl (by rfl) (by omega) hzW ?_
        intro A2 c2 wt6 hown2 hg2 hb2
        rw [HNX.out] at hown2
        have B2 := BGW.below hb2 hle0
        have BR2 := BRW.below hb2 (by omega)
        replace cR0 := BR2.cell 0
        simp at cR0
        have T2 := hTW.trans (hb2.mono (by omega))
        have hz2 := hb2.size
        refine hK.out _ _ cR0 (fun hHeld3 => ?_)
        clear hK K hHeld2
        (try simp only [Act.put, List.getElem_toArray, List.getElem_cons_zero, List.getElem_cons_succ, List.setIfInBounds_toArray, List.set_cons_zero, List.set_cons_succ])
        refine wpAnyH_take (i := 23) (v := .pointer (some ⟨(w.heap.size + 1), 1, none⟩)) rfl (by kernel_rfl) (by kernel_rfl) (by kernel_rfl) (fun _ _ _ h => h) (Or.inl ⟨by kernel_rfl, fun _ _ => by go_simp⟩) (by assumption) ?_
        (try simp only [Act.put, List.getElem_toArray, List.getElem_cons_zero, List.getElem_cons_succ, List.setIfInBounds_toArray, List.set_cons_zero, List.set_cons_succ])
        refine wpAnyH_ready (rs := [24]) (by kernel_rfl) (by simp) ?_
        refine (AllReadyH.cons rfl (fun K hK => ?_) AllReadyH.nil)
        have f21 := B2.frozen 1
        have c21 := B2.cell 1
        simp at c21
        go_simp
        obtain ⟨wt7, Hwt7⟩ : ∃ x, Hid (x = wt6.setCell ⟨w.heap.size + 1, 1, none⟩ (.slice A2 (k + 1) c2)) := ⟨_, rfl⟩
        rw [← Hwt7.out]
        have B3 : Blk wt7 (w.heap.size + 1) 72 #[.int .i64 3, .slice A2 (k + 1) c2] := by rw [Hwt7.out]; simpa using B2.set_ 1 (.slice A2 (k + 1) c2)
        have BR3 : Blk wt7 w.heap.size 72 #[.int .i64 0, .slice none 0 0] := by rw [Hwt7.out]; exact BR2.far (by simp) _
        have hown3 : wt7.ownsRow w0.heap.size 3 1 (.slice A2 (k + 1) c2) (k + 1) (ints (L ++ [(R : Int)])) := by rw [Hwt7.out]; exact own_same hown2 fun b hb => Below.heap_setCell _ _ _ _ (fun e => by have := (hown2.lt b hb).1; rw [e] at this; simp at this; omega)
        have T3 : Below w.heap.size w wt7 := by rw [Hwt7.out]; exact T2.setCell (p := ⟨w.heap.size + 1, 1, none⟩) (by simp) _
        have hz3 : w0.heap.size ≤ wt7.heap.size := by rw [Hwt7.out]; simpa using Nat.le_trans hzW hz2
        replace cR0 := BR3.cell 0
        simp at cR0
        refine hK.out _ _ cR0 (fun hHeld4 => ?_)
        clear hK K hHeld3
        (try simp only [Act.put, List.getElem_toArray, List.getElem_cons_zero, List.getElem_cons_succ, List.setIfInBounds_toArray, List.set_cons_zero, List.set_cons_succ])
        refine wpAnyH_done (by kernel_rfl) ?_ _
        clear f1 f1t f2 f2t f3 f3t f4 f4t f5 f6 f7 f8 f8t g1 g2 g3 g4 g5 g6 g7 g8 g0
        go_wp2_with fail
        go_roundw
        case rel => exact ⟨k + 1, A2, c2, _, by omega, by go_num, B3, hown3, HL2, BR3, T3, hz3⟩
        case measure => simp [intOf]; omega
    · obtain rfl : k = 27 := by omega
      have cG0 := BG.cell 0
      have cG1 := BG.cell 1
      have cR0 := BR.cell 0
      have cR1 := BR.cell 1
      simp at cG0 cG1 cR0 cR1
      have fR0 := BR.frozen 0
      have fR1 := BR.frozen 1
      obtain ⟨wf, HWF⟩ : ∃ wf, Hid (wf = (wr.setCell ⟨w.heap.size, 0, none⟩ (.int .i64 3)).setCell ⟨w.heap.size, 1, none⟩ (.slice A 27 c)) := ⟨_, rfl⟩
      have BLF : Hid (Blk wf w.heap.size 72 #[.int .i64 3, .slice A 27 c]) := by show Blk _ _ _ _; rw [HWF.out]; simpa using (BR.set_ 0 (.int .i64 3)).set_ 1 (.slice A 27 c)
      have OF : Hid (wf.ownsRow w0.heap.size 3 1 (.slice A 27 c) 27 (ints L)) := by show World.ownsRow _ _ _ _ _ _ _; rw [HWF.out]; exact own_same (own_same hown fun b hb => Below.heap_setCell _ _ _ _ (fun e => by have := (hown.lt b hb).1; rw [e] at this; simp at this; omega)) fun b hb => Below.heap_setCell _ _ _ _ (fun e => by have := (hown.lt b hb).1; rw [e] at this; simp at this; omega)
      have TF : Hid (Below w.heap.size w wf) := by show Below _ _ _; rw [HWF.out]; exact (hTr.setCell (p := ⟨w.heap.size, 0, none⟩) (Nat.le_refl _) _).setCell (p := ⟨w.heap.size, 1, none⟩) (Nat.le_refl _) _
      clear BG BR hown hTr
      go_wp2_with fail
      rw [← HWF.out]
      (try simp only [Exit.inBlock, Exit.then])
      refine bodyPost_ret (v := .agg #[.int .i64 3, .slice A 27 c]) (results_cell_row rfl _ _ w.heap.size 72 #[.int .i64 3, .slice A 27 c] (0, 0) _ (by simp) BLF.out Try.underlying72 rfl (by kernel_rfl)) rfl ?_
      have hoo := own_opE (w := w) (w' := wf) (a := 3) ⟨by omega, by omega⟩ HL.out.1 (own_mono OF.out (by omega)) fun v hv => by have := HL.out.2 v hv; exact ⟨by omega, by omega⟩
      exact ⟨L, ⟨[.int .i64 3, .slice A 27 c], _, rfl, hoo.1, hoo.2, TF.out⟩, HL.out.1, HL.out.2⟩
theorem l2Known_any (k : Int) (w : World) (hk : 0 ≤ k) : Calls Try.prog 52 #[.int .i64 k] w fun e w' => ∃ x, ToE shAlgebra w x e w' ∧ SmallP x := by
  obtain ⟨w0, hw0, T0, hsz0, BR⟩ := boxes1 w #[.int .i64 0, .slice none 0 0] 26
  have HW0 := Lib.hid hw0
  have hle0 : w.heap.size < w0.heap.size := by omega
  clear hw0 hsz0
  obtain rfl | rfl | rfl | rfl | rfl | rfl | rfl | rfl | rfl | rfl | rfl | rfl | rfl | rfl | rfl | rfl | hk : k = 0 ∨ k = 1 ∨ k = 2 ∨ k = 3 ∨ k = 4 ∨ k = 5 ∨ k = 6 ∨ k = 7 ∨ k = 8 ∨ k = 9 ∨ k = 10 ∨ k = 11 ∨ k = 12 ∨ k = 13 ∨ k = 14 ∨ k = 15 ∨ 16 ≤ k := by omega
  · go_enter Try.func52, Try.ntmps52
    go_upto_region 3 with fail
    rw [← HW0.out]
    go_wp2_with fail
    refine (l2Binary_any ⟨#[48, 48, 48, 49]⟩ w0 (by decide)).mono ?_
    rintro e w1003 ⟨cs0, bl0, rfl, O0, I0, hb0⟩
    obtain ⟨A0, n0, c0, rfl, -, -⟩ := rdOp (shOp.ord O0)
    replace T0 := below_next T0 hb0 rfl
    replace BR := BR.next hb0
    have zw1003 := hb0.size
    have hiv : Iv w0.heap.size w1003.heap.size ([bl0].flatten : List Nat) := (Iv.app0 (I0.mono (Nat.le_refl _) (by omega)))
    obtain ⟨w1010, Hw1010⟩ : ∃ x, Hid (x = w1003.alloc (.cells #[.int .i64 2, .slice A0 n0 c0] 72)) := ⟨_, Lib.hid rfl⟩
    have hbw1010 : Below w1003.heap.size w1003 w1010 := by rw [Hw1010.out]; exact below_box _ _
    have hPO : PO w0.heap.size w1010 (.slice (some ⟨w1003.heap.size, 0, none⟩) 1 1) [(2, binL ⟨#[48, 48, 48, 49]⟩)] [[.int .i64 2, .slice A0 n0 c0]] [bl0] := by
      rw [Hw1010.out]
      have := PO.make (n := 1) (cells := #[.int .i64 2, .slice A0 n0 c0]) (OwnL.cons O0 (OwnL.nil _)) hiv (by omega) rfl (by decide) rfl
      exact this
    replace T0 := below_next T0 hbw1010 rfl
    replace BR := BR.next hbw1010
    have zw1010 := hbw1010.size
    have cR0 := BR.cell 0
    have cR1 := BR.cell 1
    simp at cR0 cR1
    have fR0 := BR.frozen 0
    have fR1 := BR.frozen 1
    rw [Hw1010.out] at cR0 cR1 fR0 fR1
    obtain ⟨wf, HWF⟩ : ∃ wf, Hid (wf = (w1010.setCell ⟨w.heap.size, 0, none⟩ (.int .i64 2)).setCell ⟨w.heap.size, 1, none⟩ (.slice (some ⟨w1003.heap.size, 0, none⟩) 1 1)) := ⟨_, Lib.hid rfl⟩
    have BLF : Hid (Blk wf w.heap.size 26 #[.int .i64 2, .slice (some ⟨w1003.heap.size, 0, none⟩) 1 1]) := by show Blk _ _ _ _; rw [HWF.out]; simpa using (BR.set_ 0 (.int .i64 2)).set_ 1 (.slice (some ⟨w1003.heap.size, 0, none⟩) 1 1)
    have hlo : w.heap.size < w0.heap.size := by omega
    have PF : Hid (PO w0.heap.size wf (.slice (some ⟨w1003.heap.size, 0, none⟩) 1 1) [(2, binL ⟨#[48, 48, 48, 49]⟩)] [[.int .i64 2, .slice A0 n0 c0]] [bl0]) := by show PO _ _ _ _ _ _; rw [HWF.out]; exact (hPO.far (p := ⟨w.heap.size, 0, none⟩) hlo _).far (p := ⟨w.heap.size, 1, none⟩) hlo _
    have TF : Hid (Below w.heap.size w wf) := by show Below _ _ _; rw [HWF.out]; exact (T0.setCell (p := ⟨w.heap.size, 0, none⟩) (Nat.le_refl _) _).setCell (p := ⟨w.heap.size, 1, none⟩) (Nat.le_refl _) _
    clear hPO T0 BR hiv O0 I0
    go_wp2_with fail
    rw [← Hw1010.out]
    rw [← HWF.out]
    (try simp only [Exit.inBlock, Exit.then])
    refine bodyPost_ret (v := .agg #[.int .i64 2, .slice (some ⟨w1003.heap.size, 0, none⟩) 1 1]) (results_cell_row rfl _ _ w.heap.size 26 #[.int .i64 2, .slice (some ⟨w1003.heap.size, 0, none⟩) 1 1] (0, 0) _ (by simp) BLF.out Try.underlying26 rfl (by kernel_rfl)) rfl ?_
    exact ⟨(2, [(2, binL ⟨#[48, 48, 48, 49]⟩)]), ⟨[.int .i64 2, .slice (some ⟨w1003.heap.size, 0, none⟩) 1 1], _, rfl, PF.out.algK ⟨by omega, by omega⟩, PF.out.2.2.mono (by omega) (Nat.le_refl _), TF.out⟩, small_iff.1 (by decide +kernel)⟩
  · go_enter Try.func52, Try.ntmps52
    go_upto_region 5 with fail
    rw [← HW0.out]
    go_wp2_with fail
    refine (l2Binary_any ⟨#[48, 48, 48, 49]⟩ w0 (by decide)).mono ?_
    rintro e w1003 ⟨cs0, bl0, rfl, O0, I0, hb0⟩
    obtain ⟨A0, n0, c0, rfl, -, -⟩ := rdOp (shOp.ord O0)
    replace T0 := below_next T0 hb0 rfl
    replace BR := BR.next hb0
    have zw1003 := hb0.size
    go_wp2_with fail
    refine (l2Binary_any ⟨#[48, 49, 49, 49]⟩ w1003 (by decide)).mono ?_
    rintro e w1010 ⟨cs1, bl1, rfl, O1, I1, hb1⟩
    obtain ⟨A1, n1, c1, rfl, -, -⟩ := rdOp (shOp.ord O1)
    replace T0 := below_next T0 hb1 rfl
    replace BR := BR.next hb1
    have zw1010 := hb1.size
    replace O0 := Sh.onext O0 hb1
    have hiv : Iv w0.heap.size w1010.heap.size ([bl0, bl1].flatten : List Nat) := (Iv.app I0 (Iv.app0 (I1.mono (Nat.le_refl _) (by omega))) (by omega) (by omega) (by omega))
    obtain ⟨w1018, Hw1018⟩ : ∃ x, Hid (x = w1010.alloc (.cells #[.int .i64 2, .slice A0 n0 c0, .int .i64 2, .slice A1 n1 c1] 72)) := ⟨_, Lib.hid rfl⟩
    have hbw1018 : Below w1010.heap.size w1010 w1018 := by rw [Hw1018.out]; exact below_box _ _
    have hPO : PO w0.heap.size w1018 (.slice (some ⟨w1010.heap.size, 0, none⟩) 2 2) [(2, binL ⟨#[48, 48, 48, 49]⟩), (2, binL ⟨#[48, 49, 49, 49]⟩)] [[.int .i64 2, .slice A0 n0 c0], [.int .i64 2, .slice A1 n1 c1]] [bl0, bl1] := by
      rw [Hw1018.out]
      have := PO.make (n := 2) (cells := #[.int .i64 2, .slice A0 n0 c0, .int .i64 2, .slice A1 n1 c1]) (OwnL.cons O0 (OwnL.cons O1 (OwnL.nil _))) hiv (by omega) rfl (by decide) rfl
      exact this
    replace T0 := below_next T0 hbw1018 rfl
    replace BR := BR.next hbw1018
    have zw1018 := hbw1018.size
    have cR0 := BR.cell 0
    have cR1 := BR.cell 1
    simp at cR0 cR1
    have fR0 := BR.frozen 0
    have fR1 := BR.frozen 1
    rw [Hw1018.out] at cR0 cR1 fR0 fR1
    obtain ⟨wf, HWF⟩ : ∃ wf, Hid (wf = (w1018.setCell ⟨w.heap.size, 0, none⟩ (.int .i64 2)).setCell ⟨w.heap.size, 1, none⟩ (.slice (some ⟨w1010.heap.size, 0, none⟩) 2 2)) := ⟨_, Lib.hid rfl⟩
    have BLF : Hid (Blk wf w.heap.size 26 #[.int .i64 2, .slice (some ⟨w1010.heap.size, 0, none⟩) 2 2]) := by show Blk _ _ _ _; rw [HWF.out]; simpa using (BR.set_ 0 (.int .i64 2)).set_ 1 (.slice (some ⟨w1010.heap.size, 0, none⟩) 2 2)
    have hlo : w.heap.size < w0.heap.size := by omega
    have PF : Hid (PO w0.heap.size wf (.slice (some ⟨w1010.heap.size, 0, none⟩) 2 2) [(2, binL ⟨#[48, 48, 48, 49]⟩), (2, binL ⟨#[48, 49, 49, 49]⟩)] [[.int .i64 2, .slice A0 n0 c0], [.int .i64 2, .slice A1 n1 c1]] [bl0, bl1]) := by show PO _ _ _ _ _ _; rw [HWF.out]; exact (hPO.far (p := ⟨w.heap.size, 0, none⟩) hlo _).far (p := ⟨w.heap.size, 1, none⟩) hlo _
    have TF : Hid (Below w.heap.size w wf) := by show Below _ _ _; rw [HWF.out]; exact (T0.setCell (p := ⟨w.heap.size, 0, none⟩) (Nat.le_refl _) _).setCell (p := ⟨w.heap.size, 1, none⟩) (Nat.le_refl _) _
    clear hPO T0 BR hiv O0 O1 I0 I1
    go_wp2_with fail
    rw [← Hw1018.out]
    rw [← HWF.out]
    (try simp only [Exit.inBlock, Exit.then])
    refine bodyPost_ret (v := .agg #[.int .i64 2, .slice (some ⟨w1010.heap.size, 0, none⟩) 2 2]) (results_cell_row rfl _ _ w.heap.size 26 #[.int .i64 2, .slice (some ⟨w1010.heap.size, 0, none⟩) 2 2] (0, 0) _ (by simp) BLF.out Try.underlying26 rfl (by kernel_rfl)) rfl ?_
    exact ⟨(2, [(2, binL ⟨#[48, 48, 48, 49]⟩), (2, binL ⟨#[48, 49, 49, 49]⟩)]), ⟨[.int .i64 2, .slice (some ⟨w1010.heap.size, 0, none⟩) 2 2], _, rfl, PF.out.algK ⟨by omega, by omega⟩, PF.out.2.2.mono (by omega) (Nat.le_refl _), TF.out⟩, small_iff.1 (by decide +kernel)⟩
  · go_enter Try.func52, Try.ntmps52
    go_upto_region 7 with fail
    rw [← HW0.out]
    go_wp2_with fail
    refine (l2Binary_any ⟨#[48, 48, 48, 49]⟩ w0 (by decide)).mono ?_
    rintro e w1003 ⟨cs0, bl0, rfl, O0, I0, hb0⟩
    obtain ⟨A0, n0, c0, rfl, -, -⟩ := rdOp (shOp.ord O0)
    replace T0 := below_next T0 hb0 rfl
    replace BR := BR.next hb0
    have zw1003 := hb0.size
    go_wp2_with fail
    refine (l2Binary_any ⟨#[48, 49, 49, 49]⟩ w1003 (by decide)).mono ?_
    rintro e w1010 ⟨cs1, bl1, rfl, O1, I1, hb1⟩
    obtain ⟨A1, n1, c1, rfl, -, -⟩ := rdOp (shOp.ord O1)
    replace T0 := below_next T0 hb1 rfl
    replace BR := BR.next hb1
    have zw1010 := hb1.size
    replace O0 := Sh.onext O0 hb1
    obtain ⟨w1018, Hw1018⟩ : ∃ x, Hid (x = w1010.alloc (.cells #[.int .i64 1, .int .i64 0] 3)) := ⟨_, Lib.hid rfl⟩
    have hbw1018 : Below w1010.heap.size w1010 w1018 := by rw [Hw1018.out]; exact below_box _ _
    replace T0 := below_next T0 hbw1018 rfl
    replace BR := BR.next hbw1018
    have zw1018 := hbw1018.size
    replace O0 := Sh.onext O0 hbw1018
    replace O1 := Sh.onext O1 hbw1018
    have yw1018 : w1018.heap.size = w1010.heap.size + 1 := by rw [Hw1018.out]; simp
    have ew1018 : w1018.heap.size = w1010.heap.size + 1 := by omega
    have O2 : shOp.own w1018 [.int .i64 1, .slice (some ⟨w1010.heap.size, 0, none⟩) 2 2] (1, [1, 0]) [w1010.heap.size] := by
      have := own_tab (w := w1010) (a := 1) (L := [1, 0]) (n := 2) ⟨by omega, by omega⟩ rfl (by decide) (by intro x hx; simp at hx; unfold InR; omega)
      have hh : shOp.own w1018 [.int .i64 1, .slice (some ⟨w1010.heap.size, 0, none⟩) 2 2] (1, [1, 0]) [w1010.heap.size] := by rw [Hw1018.out]; exact this
      exact hh
    have I2 : Iv w1010.heap.size w1018.heap.size [w1010.heap.size] := ⟨by simp, fun b hb => by simp at hb; omega⟩
    have hiv : Iv w0.heap.size w1018.heap.size ([bl0, bl1, [w1010.heap.size]].flatten : List Nat) := (Iv.app I0 (Iv.app I1 (Iv.app0 (I2.mono (Nat.le_refl _) (by omega))) (by omega) (by omega) (by omega)) (by omega) (by omega) (by omega))
    obtain ⟨w1032, Hw1032⟩ : ∃ x, Hid (x = w1018.alloc (.cells #[.int .i64 2, .slice A0 n0 c0, .int .i64 2, .slice A1 n1 c1, .int .i64 1, .slice (some ⟨w1010.heap.size, 0, none⟩) 2 2] 72)) := ⟨_, Lib.hid rfl⟩
    have hbw1032 : Below w1018.heap.size w1018 w1032 := by rw [Hw1032.out]; exact below_box _ _
    have hPO : PO w0.heap.size w1032 (.slice (some ⟨w1010.heap.size + 1, 0, none⟩) 3 3) [(2, binL ⟨#[48, 48, 48, 49]⟩), (2, binL ⟨#[48, 49, 49, 49]⟩), (1, [1, 0])] [[.int .i64 2, .slice A0 n0 c0], [.int .i64 2, .slice A1 n1 c1], [.int .i64 1, .slice (some ⟨w1010.heap.size, 0, none⟩) 2 2]] [bl0, bl1, [w1010.heap.size]] := by
      rw [Hw1032.out]
      have := PO.make (n := 3) (cells := #[.int .i64 2, .slice A0 n0 c0, .int .i64 2, .slice A1 n1 c1, .int .i64 1, .slice (some ⟨w1010.heap.size, 0, none⟩) 2 2]) (OwnL.cons O0 (OwnL.cons O1 (OwnL.cons O2 (OwnL.nil _)))) hiv (by omega) rfl (by decide) rfl
      rw [ew1018] at this
      exact this
    replace T0 := below_next T0 hbw1032 rfl
    replace BR := BR.next hbw1032
    have zw1032 := hbw1032.size
    have cR0 := BR.cell 0
    have cR1 := BR.cell 1
    simp at cR0 cR1
    have fR0 := BR.frozen 0
    have fR1 := BR.frozen 1
    rw [Hw1032.out] at cR0 cR1 fR0 fR1
    rw [Hw1018.out] at cR0 cR1 fR0 fR1
    obtain ⟨wf, HWF⟩ : ∃ wf, Hid (wf = (w1032.setCell ⟨w.heap.size, 0, none⟩ (.int .i64 2)).setCell ⟨w.heap.size, 1, none⟩ (.slice (some ⟨w1010.heap.size + 1, 0, none⟩) 3 3)) := ⟨_, Lib.hid rfl⟩
    have BLF : Hid (Blk wf w.heap.size 26 #[.int .i64 2, .slice (some ⟨w1010.heap.size + 1, 0, none⟩) 3 3]) := by show Blk _ _ _ _; rw [HWF.out]; simpa using (BR.set_ 0 (.int .i64 2)).set_ 1 (.slice (some ⟨w1010.heap.size + 1, 0, none⟩) 3 3)
    have hlo : w.heap.size < w0.heap.size := by omega
    have PF : Hid (PO w0.heap.size wf (.slice (some ⟨w1010.heap.size + 1, 0, none⟩) 3 3) [(2, binL ⟨#[48, 48, 48, 49]⟩), (2, binL ⟨#[48, 49, 49, 49]⟩), (1, [1, 0])] [[.int .i64 2, .slice A0 n0 c0], [.int .i64 2, .slice A1 n1 c1], [.int .i64 1, .slice (some ⟨w1010.heap.size, 0, none⟩) 2 2]] [bl0, bl1, [w1010.heap.size]]) := by show PO _ _ _ _ _ _; rw [HWF.out]; exact (hPO.far (p := ⟨w.heap.size, 0, none⟩) hlo _).far (p := ⟨w.heap.size, 1, none⟩) hlo _
    have TF : Hid (Below w.heap.size w wf) := by show Below _ _ _; rw [HWF.out]; exact (T0.setCell (p := ⟨w.heap.size, 0, none⟩) (Nat.le_refl _) _).setCell (p := ⟨w.heap.size, 1, none⟩) (Nat.le_refl _) _
    clear hPO T0 BR hiv O0 O1 O2 I0 I1 I2
    go_wp2_with fail
    rw [← Hw1018.out]
    rw [← Hw1032.out]
    rw [← HWF.out]
    (try simp only [Exit.inBlock, Exit.then])
    refine bodyPost_ret (v := .agg #[.int .i64 2, .slice (some ⟨w1010.heap.size + 1, 0, none⟩) 3 3]) (results_cell_row rfl _ _ w.heap.size 26 #[.int .i64 2, .slice (some ⟨w1010.heap.size + 1, 0, none⟩) 3 3] (0, 0) _ (by simp) BLF.out Try.underlying26 rfl (by kernel_rfl)) rfl ?_
    exact ⟨(2, [(2, binL ⟨#[48, 48, 48, 49]⟩), (2, binL ⟨#[48, 49, 49, 49]⟩), (1, [1, 0])]), ⟨[.int .i64 2, .slice (some ⟨w1010.heap.size + 1, 0, none⟩) 3 3], _, rfl, PF.out.algK ⟨by omega, by omega⟩, PF.out.2.2.mono (by omega) (Nat.le_refl _), TF.out⟩, small_iff.1 (by decide +kernel)⟩
  · go_enter Try.func52, Try.ntmps52
    go_upto_region 9 with fail
    rw [← HW0.out]
    go_wp2_with fail
    refine (l2Affine2_any w0).mono ?_
    rintro e w1003 ⟨L0, ⟨cs0, bl0, rfl, O0, I0, hb0⟩, hl0, hv0⟩
    obtain ⟨A0, n0, c0, rfl, -, -⟩ := rdOp (shOp.ord O0)
    replace T0 := below_next T0 hb0 rfl
    replace BR := BR.next hb0
    have zw1003 := hb0.size
    have hiv : Iv w0.heap.size w1003.heap.size ([bl0].flatten : List Nat) := (Iv.app0 (I0.mono (Nat.le_refl _) (by omega)))
    obtain ⟨w1010, Hw1010⟩ : ∃ x, Hid (x = w1003.alloc (.cells #[.int .i64 3, .slice A0 n0 c0] 72)) := ⟨_, Lib.hid rfl⟩
    have hbw1010 : Below w1003.heap.size w1003 w1010 := by rw [Hw1010.out]; exact below_box _ _
    have hPO : PO w0.heap.size w1010 (.slice (some ⟨w1003.heap.size, 0, none⟩) 1 1) [(3, L0)] [[.int .i64 3, .slice A0 n0 c0]] [bl0] := by
      rw [Hw1010.out]
      have := PO.make (n := 1) (cells := #[.int .i64 3, .slice A0 n0 c0]) (OwnL.cons O0 (OwnL.nil _)) hiv (by omega) rfl (by decide) rfl
      exact this
    replace T0 := below_next T0 hbw1010 rfl
    replace BR := BR.next hbw1010
    have zw1010 := hbw1010.size
    have cR0 := BR.cell 0
    have cR1 := BR.cell 1
    simp at cR0 cR1
    have fR0 := BR.frozen 0
    have fR1 := BR.frozen 1
    rw [Hw1010.out] at cR0 cR1 fR0 fR1
    obtain ⟨wf, HWF⟩ : ∃ wf, Hid (wf = (w1010.setCell ⟨w.heap.size, 0, none⟩ (.int .i64 2)).setCell ⟨w.heap.size, 1, none⟩ (.slice (some ⟨w1003.heap.size, 0, none⟩) 1 1)) := ⟨_, Lib.hid rfl⟩
    have BLF : Hid (Blk wf w.heap.size 26 #[.int .i64 2, .slice (some ⟨w1003.heap.size, 0, none⟩) 1 1]) := by show Blk _ _ _ _; rw [HWF.out]; simpa using (BR.set_ 0 (.int .i64 2)).set_ 1 (.slice (some ⟨w1003.heap.size, 0, none⟩) 1 1)
    have hlo : w.heap.size < w0.heap.size := by omega
    have PF : Hid (PO w0.heap.size wf (.slice (some ⟨w1003.heap.size, 0, none⟩) 1 1) [(3, L0)] [[.int .i64 3, .slice A0 n0 c0]] [bl0]) := by show PO _ _ _ _ _ _; rw [HWF.out]; exact (hPO.far (p := ⟨w.heap.size, 0, none⟩) hlo _).far (p := ⟨w.heap.size, 1, none⟩) hlo _
    have TF : Hid (Below w.heap.size w wf) := by show Below _ _ _; rw [HWF.out]; exact (T0.setCell (p := ⟨w.heap.size, 0, none⟩) (Nat.le_refl _) _).setCell (p := ⟨w.heap.size, 1, none⟩) (Nat.le_refl _) _
    clear hPO T0 BR hiv O0 I0
    go_wp2_with fail
    rw [← Hw1010.out]
    rw [← HWF.out]
    (try simp only [Exit.inBlock, Exit.then])
    refine bodyPost_ret (v := .agg #[.int .i64 2, .slice (some ⟨w1003.heap.size, 0, none⟩) 1 1]) (results_cell_row rfl _ _ w.heap.size 26 #[.int .i64 2, .slice (some ⟨w1003.heap.size, 0, none⟩) 1 1] (0, 0) _ (by simp) BLF.out Try.underlying26 rfl (by kernel_rfl)) rfl ?_
    exact ⟨(2, [(3, L0)]), ⟨[.int .i64 2, .slice (some ⟨w1003.heap.size, 0, none⟩) 1 1], _, rfl, PF.out.algK ⟨by omega, by omega⟩, PF.out.2.2.mono (by omega) (Nat.le_refl _), TF.out⟩, ⟨by show (1 : Int) ≤ 2; omega, by show (2 : Int) ≤ 5; omega, by simp, fun o ho => by
          rw [List.mem_singleton.1 ho]
          exact ⟨by show (0 : Int) ≤ 3; omega, by show (3 : Int) ≤ 3; omega, hl0, fun v hv => by have := hv0 v hv; simp; omega⟩⟩⟩
  · go_enter Try.func52, Try.ntmps52
    go_upto_region 11 with fail
    rw [← HW0.out]
    go_wp2_with fail
    refine (l2Binary_any ⟨#[48, 49, 50, 49, 50, 48, 50, 48, 49]⟩ w0 (by decide)).mono ?_
    rintro e w1003 ⟨cs0, bl0, rfl, O0, I0, hb0⟩
    obtain ⟨A0, n0, c0, rfl, -, -⟩ := rdOp (shOp.ord O0)
    replace T0 := below_next T0 hb0 rfl
    replace BR := BR.next hb0
    have zw1003 := hb0.size
    have hiv : Iv w0.heap.size w1003.heap.size ([bl0].flatten : List Nat) := (Iv.app0 (I0.mono (Nat.le_refl _) (by omega)))
    obtain ⟨w1010, Hw1010⟩ : ∃ x, Hid (x = w1003.alloc (.cells #[.int .i64 2, .slice A0 n0 c0] 72)) := ⟨_, Lib.hid rfl⟩
    have hbw1010 : Below w1003.heap.size w1003 w1010 := by rw [Hw1010.out]; exact below_box _ _
    have hPO : PO w0.heap.size w1010 (.slice (some ⟨w1003.heap.size, 0, none⟩) 1 1) [(2, binL ⟨#[48, 49, 50, 49, 50, 48, 50, 48, 49]⟩)] [[.int .i64 2, .slice A0 n0 c0]] [bl0] := by
      rw [Hw1010.out]
      have := PO.make (n := 1) (cells := #[.int .i64 2, .slice A0 n0 c0]) (OwnL.cons O0 (OwnL.nil _)) hiv (by omega) rfl (by decide) rfl
      exact this
    replace T0 := below_next T0 hbw1010 rfl
    replace BR := BR.next hbw1010
    have zw1010 := hbw1010.size
    have cR0 := BR.cell 0
    have cR1 := BR.cell 1
    simp at cR0 cR1
    have fR0 := BR.frozen 0
    have fR1 := BR.frozen 1
    rw [Hw1010.out] at cR0 cR1 fR0 fR1
    obtain ⟨wf, HWF⟩ : ∃ wf, Hid (wf = (w1010.setCell ⟨w.heap.size, 0, none⟩ (.int .i64 3)).setCell ⟨w.heap.size, 1, none⟩ (.slice (some ⟨w1003.heap.size, 0, none⟩) 1 1)) := ⟨_, Lib.hid rfl⟩
    have BLF : Hid (Blk wf w.heap.size 26 #[.int .i64 3, .slice (some ⟨w1003.heap.size, 0, none⟩) 1 1]) := by show Blk _ _ _ _; rw [HWF.out]; simpa using (BR.set_ 0 (.int .i64 3)).set_ 1 (.slice (some ⟨w1003.heap.size, 0, none⟩) 1 1)
    have hlo : w.heap.size < w0.heap.size := by omega
    have PF : Hid (PO w0.heap.size wf (.slice (some ⟨w1003.heap.size, 0, none⟩) 1 1) [(2, binL ⟨#[48, 49, 50, 49, 50, 48, 50, 48, 49]⟩)] [[.int .i64 2, .slice A0 n0 c0]] [bl0]) := by show PO _ _ _ _ _ _; rw [HWF.out]; exact (hPO.far (p := ⟨w.heap.size, 0, none⟩) hlo _).far (p := ⟨w.heap.size, 1, none⟩) hlo _
    have TF : Hid (Below w.heap.size w wf) := by show Below _ _ _; rw [HWF.out]; exact (T0.setCell (p := ⟨w.heap.size, 0, none⟩) (Nat.le_refl _) _).setCell (p := ⟨w.heap.size, 1, none⟩) (Nat.le_refl _) _
    clear hPO T0 BR hiv O0 I0
    go_wp2_with fail
    rw [← Hw1010.out]
    rw [← HWF.out]
    (try simp only [Exit.inBlock, Exit.then])
    refine bodyPost_ret (v := .agg #[.int .i64 3, .slice (some ⟨w1003.heap.size, 0, none⟩) 1 1]) (results_cell_row rfl _ _ w.heap.size 26 #[.int .i64 3, .slice (some ⟨w1003.heap.size, 0, none⟩) 1 1] (0, 0) _ (by simp) BLF.out Try.underlying26 rfl (by kernel_rfl)) rfl ?_
    exact ⟨(3, [(2, binL ⟨#[48, 49, 50, 49, 50, 48, 50, 48, 49]⟩)]), ⟨[.int .i64 3, .slice (some ⟨w1003.heap.size, 0, none⟩) 1 1], _, rfl, PF.out.algK ⟨by omega, by omega⟩, PF.out.2.2.mono (by omega) (Nat.le_refl _), TF.out⟩, small_iff.1 (by decide +kernel)⟩
  · go_enter Try.func52, Try.ntmps52
    go_upto_region 13 with fail
    rw [← HW0.out]
    go_wp2_with fail
    refine (l2Binary_any ⟨#[48, 49, 48, 49, 49, 50, 48, 50, 50]⟩ w0 (by decide)).mono ?_
    rintro e w1003 ⟨cs0, bl0, rfl, O0, I0, hb0⟩
    obtain ⟨A0, n0, c0, rfl, -, -⟩ := rdOp (shOp.ord O0)
    replace T0 := below_next T0 hb0 rfl
    replace BR := BR.next hb0
    have zw1003 := hb0.size
    have hiv : Iv w0.heap.size w1003.heap.size ([bl0].flatten : List Nat) := (Iv.app0 (I0.mono (Nat.le_refl _) (by omega)))
    obtain ⟨w1010, Hw1010⟩ : ∃ x, Hid (x = w1003.alloc (.cells #[.int .i64 2, .slice A0 n0 c0] 72)) := ⟨_, Lib.hid rfl⟩
    have hbw1010 : Below w1003.heap.size w1003 w1010 := by rw [Hw1010.out]; exact below_box _ _
    have hPO : PO w0.heap.size w1010 (.slice (some ⟨w1003.heap.size, 0, none⟩) 1 1) [(2, binL ⟨#[48, 49, 48, 49, 49, 50, 48, 50, 50]⟩)] [[.int .i64 2, .slice A0 n0 c0]] [bl0] := by
      rw [Hw1010.out]
      have := PO.make (n := 1) (cells := #[.int .i64 2, .slice A0 n0 c0]) (OwnL.cons O0 (OwnL.nil _)) hiv (by omega) rfl (by decide) rfl
      exact this
    replace T0 := below_next T0 hbw1010 rfl
    replace BR := BR.next hbw1010
    have zw1010 := hbw1010.size
    have cR0 := BR.cell 0
    have cR1 := BR.cell 1
    simp at cR0 cR1
    have fR0 := BR.frozen 0
    have fR1 := BR.frozen 1
    rw [Hw1010.out] at cR0 cR1 fR0 fR1
    obtain ⟨wf, HWF⟩ : ∃ wf, Hid (wf = (w1010.setCell ⟨w.heap.size, 0, none⟩ (.int .i64 3)).setCell ⟨w.heap.size, 1, none⟩ (.slice (some ⟨w1003.heap.size, 0, none⟩) 1 1)) := ⟨_, Lib.hid rfl⟩
    have BLF : Hid (Blk wf w.heap.size 26 #[.int .i64 3, .slice (some ⟨w1003.heap.size, 0, none⟩) 1 1]) := by show Blk _ _ _ _; rw [HWF.out]; simpa using (BR.set_ 0 (.int .i64 3)).set_ 1 (.slice (some ⟨w1003.heap.size, 0, none⟩) 1 1)
    have hlo : w.heap.size < w0.heap.size := by omega
    have PF : Hid (PO w0.heap.size wf (.slice (some ⟨w1003.heap.size, 0, none⟩) 1 1) [(2, binL ⟨#[48, 49, 48, 49, 49, 50, 48, 50, 50]⟩)] [[.int .i64 2, .slice A0 n0 c0]] [bl0]) := by show PO _ _ _ _ _ _; rw [HWF.out]; exact (hPO.far (p := ⟨w.heap.size, 0, none⟩) hlo _).far (p := ⟨w.heap.size, 1, none⟩) hlo _
    have TF : Hid (Below w.heap.size w wf) := by show Below _ _ _; rw [HWF.out]; exact (T0.setCell (p := ⟨w.heap.size, 0, none⟩) (Nat.le_refl _) _).setCell (p := ⟨w.heap.size, 1, none⟩) (Nat.le_refl _) _
    clear hPO T0 BR hiv O0 I0
    go_wp2_with fail
    rw [← Hw1010.out]
    rw [← HWF.out]
    (try simp only [Exit.inBlock, Exit.then])
    refine bodyPost_ret (v := .agg #[.int .i64 3, .slice (some ⟨w1003.heap.size, 0, none⟩) 1 1]) (results_cell_row rfl _ _ w.heap.size 26 #[.int .i64 3, .slice (some ⟨w1003.heap.size, 0, none⟩) 1 1] (0, 0) _ (by simp) BLF.out Try.underlying26 rfl (by kernel_rfl)) rfl ?_
    exact ⟨(3, [(2, binL ⟨#[48, 49, 48, 49, 49, 50, 48, 50, 50]⟩)]), ⟨[.int .i64 3, .slice (some ⟨w1003.heap.size, 0, none⟩) 1 1], _, rfl, PF.out.algK ⟨by omega, by omega⟩, PF.out.2.2.mono (by omega) (Nat.le_refl _), TF.out⟩, small_iff.1 (by decide +kernel)⟩
  · go_enter Try.func52, Try.ntmps52
    go_upto_region 15 with fail
    rw [← HW0.out]
    go_wp2_with fail
    refine (l2Binary_any ⟨#[48, 49, 50, 51, 49, 48, 51, 50, 50, 51, 48, 49, 51, 50, 49, 48]⟩ w0 (by decide)).mono ?_
    rintro e w1003 ⟨cs0, bl0, rfl, O0, I0, hb0⟩
    obtain ⟨A0, n0, c0, rfl, -, -⟩ := rdOp (shOp.ord O0)
    replace T0 := below_next T0 hb0 rfl
    replace BR := BR.next hb0
    have zw1003 := hb0.size
    have hiv : Iv w0.heap.size w1003.heap.size ([bl0].flatten : List Nat) := (Iv.app0 (I0.mono (Nat.le_refl _) (by omega)))
    obtain ⟨w1010, Hw1010⟩ : ∃ x, Hid (x = w1003.alloc (.cells #[.int .i64 2, .slice A0 n0 c0] 72)) := ⟨_, Lib.hid rfl⟩
    have hbw1010 : Below w1003.heap.size w1003 w1010 := by rw [Hw1010.out]; exact below_box _ _
    have hPO : PO w0.heap.size w1010 (.slice (some ⟨w1003.heap.size, 0, none⟩) 1 1) [(2, binL ⟨#[48, 49, 50, 51, 49, 48, 51, 50, 50, 51, 48, 49, 51, 50, 49, 48]⟩)] [[.int .i64 2, .slice A0 n0 c0]] [bl0] := by
      rw [Hw1010.out]
      have := PO.make (n := 1) (cells := #[.int .i64 2, .slice A0 n0 c0]) (OwnL.cons O0 (OwnL.nil _)) hiv (by omega) rfl (by decide) rfl
      exact this
    replace T0 := below_next T0 hbw1010 rfl
    replace BR := BR.next hbw1010
    have zw1010 := hbw1010.size
    have cR0 := BR.cell 0
    have cR1 := BR.cell 1
    simp at cR0 cR1
    have fR0 := BR.frozen 0
    have fR1 := BR.frozen 1
    rw [Hw1010.out] at cR0 cR1 fR0 fR1
    obtain ⟨wf, HWF⟩ : ∃ wf, Hid (wf = (w1010.setCell ⟨w.heap.size, 0, none⟩ (.int .i64 4)).setCell ⟨w.heap.size, 1, none⟩ (.slice (some ⟨w1003.heap.size, 0, none⟩) 1 1)) := ⟨_, Lib.hid rfl⟩
    have BLF : Hid (Blk wf w.heap.size 26 #[.int .i64 4, .slice (some ⟨w1003.heap.size, 0, none⟩) 1 1]) := by show Blk _ _ _ _; rw [HWF.out]; simpa using (BR.set_ 0 (.int .i64 4)).set_ 1 (.slice (some ⟨w1003.heap.size, 0, none⟩) 1 1)
    have hlo : w.heap.size < w0.heap.size := by omega
    have PF : Hid (PO w0.heap.size wf (.slice (some ⟨w1003.heap.size, 0, none⟩) 1 1) [(2, binL ⟨#[48, 49, 50, 51, 49, 48, 51, 50, 50, 51, 48, 49, 51, 50, 49, 48]⟩)] [[.int .i64 2, .slice A0 n0 c0]] [bl0]) := by show PO _ _ _ _ _ _; rw [HWF.out]; exact (hPO.far (p := ⟨w.heap.size, 0, none⟩) hlo _).far (p := ⟨w.heap.size, 1, none⟩) hlo _
    have TF : Hid (Below w.heap.size w wf) := by show Below _ _ _; rw [HWF.out]; exact (T0.setCell (p := ⟨w.heap.size, 0, none⟩) (Nat.le_refl _) _).setCell (p := ⟨w.heap.size, 1, none⟩) (Nat.le_refl _) _
    clear hPO T0 BR hiv O0 I0
    go_wp2_with fail
    rw [← Hw1010.out]
    rw [← HWF.out]
    (try simp only [Exit.inBlock, Exit.then])
    refine bodyPost_ret (v := .agg #[.int .i64 4, .slice (some ⟨w1003.heap.size, 0, none⟩) 1 1]) (results_cell_row rfl _ _ w.heap.size 26 #[.int .i64 4, .slice (some ⟨w1003.heap.size, 0, none⟩) 1 1] (0, 0) _ (by simp) BLF.out Try.underlying26 rfl (by kernel_rfl)) rfl ?_
    exact ⟨(4, [(2, binL ⟨#[48, 49, 50, 51, 49, 48, 51, 50, 50, 51, 48, 49, 51, 50, 49, 48]⟩)]), ⟨[.int .i64 4, .slice (some ⟨w1003.heap.size, 0, none⟩) 1 1], _, rfl, PF.out.algK ⟨by omega, by omega⟩, PF.out.2.2.mono (by omega) (Nat.le_refl _), TF.out⟩, small_iff.1 (by decide +kernel)⟩
  · go_enter Try.func52, Try.ntmps52
    go_upto_region 17 with fail
    rw [← HW0.out]
    go_wp2_with fail
    refine (l2Binary_any ⟨#[48, 48, 48, 48, 49, 49, 48, 49, 50]⟩ w0 (by decide)).mono ?_
    rintro e w1003 ⟨cs0, bl0, rfl, O0, I0, hb0⟩
    obtain ⟨A0, n0, c0, rfl, -, -⟩ := rdOp (shOp.ord O0)
    replace T0 := below_next T0 hb0 rfl
    replace BR := BR.next hb0
    have zw1003 := hb0.size
    go_wp2_with fail
    refine (l2Binary_any ⟨#[48, 49, 50, 49, 49, 50, 50, 50, 50]⟩ w1003 (by decide)).mono ?_
    rintro e w1010 ⟨cs1, bl1, rfl, O1, I1, hb1⟩
    obtain ⟨A1, n1, c1, rfl, -, -⟩ := rdOp (shOp.ord O1)
    replace T0 := below_next T0 hb1 rfl
    replace BR := BR.next hb1
    have zw1010 := hb1.size
    replace O0 := Sh.onext O0 hb1
    have hiv : Iv w0.heap.size w1010.heap.size ([bl0, bl1].flatten : List Nat) := (Iv.app I0 (Iv.app0 (I1.mono (Nat.le_refl _) (by omega))) (by omega) (by omega) (by omega))
    obtain ⟨w1018, Hw1018⟩ : ∃ x, Hid (x = w1010.alloc (.cells #[.int .i64 2, .slice A0 n0 c0, .int .i64 2, .slice A1 n1 c1] 72)) := ⟨_, Lib.hid rfl⟩
    have hbw1018 : Below w1010.heap.size w1010 w1018 := by rw [Hw1018.out]; exact below_box _ _
    have hPO : PO w0.heap.size w1018 (.slice (some ⟨w1010.heap.size, 0, none⟩) 2 2) [(2, binL ⟨#[48, 48, 48, 48, 49, 49, 48, 49, 50]⟩), (2, binL ⟨#[48, 49, 50, 49, 49, 50, 50, 50, 50]⟩)] [[.int .i64 2, .slice A0 n0 c0], [.int .i64 2, .slice A1 n1 c1]] [bl0, bl1] := by
      rw [Hw1018.out]
      have := PO.make (n := 2) (cells := #[.int .i64 2, .slice A0 n0 c0, .int .i64 2, .slice A1 n1 c1]) (OwnL.cons O0 (OwnL.cons O1 (OwnL.nil _))) hiv (by omega) rfl (by decide) rfl
      exact this
    replace T0 := below_next T0 hbw1018 rfl
    replace BR := BR.next hbw1018
    have zw1018 := hbw1018.size
    have cR0 := BR.cell 0
    have cR1 := BR.cell 1
    simp at cR0 cR1
    have fR0 := BR.frozen 0
    have fR1 := BR.frozen 1
    rw [Hw1018.out] at cR0 cR1 fR0 fR1
    obtain ⟨wf, HWF⟩ : ∃ wf, Hid (wf = (w1018.setCell ⟨w.heap.size, 0, none⟩ (.int .i64 3)).setCell ⟨w.heap.size, 1, none⟩ (.slice (some ⟨w1010.heap.size, 0, none⟩) 2 2)) := ⟨_, Lib.hid rfl⟩
    have BLF : Hid (Blk wf w.heap.size 26 #[.int .i64 3, .slice (some ⟨w1010.heap.size, 0, none⟩) 2 2]) := by show Blk _ _ _ _; rw [HWF.out]; simpa using (BR.set_ 0 (.int .i64 3)).set_ 1 (.slice (some ⟨w1010.heap.size, 0, none⟩) 2 2)
    have hlo : w.heap.size < w0.heap.size := by omega
    have PF : Hid (PO w0.heap.size wf (.slice (some ⟨w1010.heap.size, 0, none⟩) 2 2) [(2, binL ⟨#[48, 48, 48, 48, 49, 49, 48, 49, 50]⟩), (2, binL ⟨#[48, 49, 50, 49, 49, 50, 50, 50, 50]⟩)] [[.int .i64 2, .slice A0 n0 c0], [.int .i64 2, .slice A1 n1 c1]] [bl0, bl1]) := by show PO _ _ _ _ _ _; rw [HWF.out]; exact (hPO.far (p := ⟨w.heap.size, 0, none⟩) hlo _).far (p := ⟨w.heap.size, 1, none⟩) hlo _
    have TF : Hid (Below w.heap.size w wf) := by show Below _ _ _; rw [HWF.out]; exact (T0.setCell (p := ⟨w.heap.size, 0, none⟩) (Nat.le_refl _) _).setCell (p := ⟨w.heap.size, 1, none⟩) (Nat.le_refl _) _
    clear hPO T0 BR hiv O0 O1 I0 I1
    go_wp2_with fail
    rw [← Hw1018.out]
    rw [← HWF.out]
    (try simp only [Exit.inBlock, Exit.then])
    refine bodyPost_ret (v := .agg #[.int .i64 3, .slice (some ⟨w1010.heap.size, 0, none⟩) 2 2]) (results_cell_row rfl _ _ w.heap.size 26 #[.int .i64 3, .slice (some ⟨w1010.heap.size, 0, none⟩) 2 2] (0, 0) _ (by simp) BLF.out Try.underlying26 rfl (by kernel_rfl)) rfl ?_
    exact ⟨(3, [(2, binL ⟨#[48, 48, 48, 48, 49, 49, 48, 49, 50]⟩), (2, binL ⟨#[48, 49, 50, 49, 49, 50, 50, 50, 50]⟩)]), ⟨[.int .i64 3, .slice (some ⟨w1010.heap.size, 0, none⟩) 2 2], _, rfl, PF.out.algK ⟨by omega, by omega⟩, PF.out.2.2.mono (by omega) (Nat.le_refl _), TF.out⟩, small_iff.1 (by decide +kernel)⟩
  · go_enter Try.func52, Try.ntmps52
    go_upto_region 19 with fail
    rw [← HW0.out]
    have BR0 := BR
    have dR0 := BR.cell 0
    have dR1 := BR.cell 1
    simp at dR0 dR1
    have gR0 := BR.frozen 0
    have gR1 := BR.frozen 1
    obtain ⟨ws, HWS⟩ : ∃ x, Hid (x = (w0.setCell ⟨w.heap.size, 0, none⟩ (.int .i64 4)).setCell ⟨w.heap.size, 1, none⟩ (.slice (some ⟨w0.heap.size + 1, 0, none⟩) 1 1)) := ⟨_, Lib.hid rfl⟩
    have ews : ws.heap.size = w0.heap.size := by rw [HWS.out]; simp
    have BS : Blk ws w.heap.size 26 #[.int .i64 4, .slice (some ⟨w0.heap.size + 1, 0, none⟩) 1 1] := by rw [HWS.out]; simpa using (BR.set_ 0 (.int .i64 4)).set_ 1 (.slice (some ⟨w0.heap.size + 1, 0, none⟩) 1 1)
    replace T0 : Below w.heap.size w ws := by rw [HWS.out]; exact (T0.setCell (p := ⟨w.heap.size, 0, none⟩) (Nat.le_refl _) _).setCell (p := ⟨w.heap.size, 1, none⟩) (Nat.le_refl _) _
    replace BR := BS
    clear BS
    obtain ⟨w1015, Hw1015⟩ : ∃ x, Hid (x = ws.alloc (.cells #[.int .i64 1, .int .i64 2, .int .i64 3, .int .i64 0] 3)) := ⟨_, Lib.hid rfl⟩
    have hbw1015 : Below ws.heap.size ws w1015 := by rw [Hw1015.out]; exact below_box _ _
    replace T0 := below_next T0 hbw1015 rfl
    replace BR := BR.next hbw1015
    have zw1015 := hbw1015.size
    have yw1015 : w1015.heap.size = ws.heap.size + 1 := by rw [Hw1015.out]; simp
    have ew1015 : w1015.heap.size = w0.heap.size + 1 := by omega
    have O0 : shOp.own w1015 [.int .i64 1, .slice (some ⟨w0.heap.size, 0, none⟩) 4 4] (1, [1, 2, 3, 0]) [w0.heap.size] := by
      have := own_tab (w := ws) (a := 1) (L := [1, 2, 3, 0]) (n := 4) ⟨by omega, by omega⟩ rfl (by decide) (by intro x hx; simp at hx; unfold InR; omega)
      rw [ews] at this
      have hh : shOp.own w1015 [.int .i64 1, .slice (some ⟨w0.heap.size, 0, none⟩) 4 4] (1, [1, 2, 3, 0]) [w0.heap.size] := by rw [Hw1015.out]; exact this
      exact hh
    have I0 : Iv ws.heap.size w1015.heap.size [w0.heap.size] := ⟨by simp, fun b hb => by simp at hb; omega⟩
    have hiv : Iv ws.heap.size w1015.heap.size ([[w0.heap.size]].flatten : List Nat) := (Iv.app0 (I0.mono (Nat.le_refl _) (by omega)))
    obtain ⟨w1028, Hw1028⟩ : ∃ x, Hid (x = w1015.alloc (.cells #[.int .i64 1, .slice (some ⟨w0.heap.size, 0, none⟩) 4 4] 72)) := ⟨_, Lib.hid rfl⟩
    have hbw1028 : Below w1015.heap.size w1015 w1028 := by rw [Hw1028.out]; exact below_box _ _
    have hPO : PO ws.heap.size w1028 (.slice (some ⟨w0.heap.size + 1, 0, none⟩) 1 1) [(1, [1, 2, 3, 0])] [[.int .i64 1, .slice (some ⟨w0.heap.size, 0, none⟩) 4 4]] [[w0.heap.size]] := by
      rw [Hw1028.out]
      have := PO.make (n := 1) (cells := #[.int .i64 1, .slice (some ⟨w0.heap.size, 0, none⟩) 4 4]) (OwnL.cons O0 (OwnL.nil _)) hiv (by omega) rfl (by decide) rfl
      rw [ew1015] at this
      exact this
    replace T0 := below_next T0 hbw1028 rfl
    replace BR := BR.next hbw1028
    have zw1028 := hbw1028.size
    have BLF := Lib.hid BR
    have PF := Lib.hid hPO
    have TF := Lib.hid T0
    clear BR hPO T0
    have BA := (BR0.alloc (.cells #[.int .i64 1, .int .i64 2, .int .i64 3, .int .i64 0] 3)).alloc (.cells #[.int .i64 1, .slice (some ⟨w0.heap.size, 0, none⟩) 4 4] 72)
    have cR0 := BA.cell 0
    have cR1 := BA.cell 1
    simp at cR0 cR1
    have fR0 := BA.frozen 0
    have fR1 := BA.frozen 1
    clear BA BR0
    clear hiv O0 I0
    go_wp2_with fail
    rw [← HWS.out]
    rw [← Hw1015.out]
    rw [← Hw1028.out]
    (try simp only [Exit.inBlock, Exit.then])
    refine bodyPost_ret (v := .agg #[.int .i64 4, .slice (some ⟨w0.heap.size + 1, 0, none⟩) 1 1]) (results_cell_row rfl _ _ w.heap.size 26 #[.int .i64 4, .slice (some ⟨w0.heap.size + 1, 0, none⟩) 1 1] (0, 0) _ (by simp) BLF.out Try.underlying26 rfl (by kernel_rfl)) rfl ?_
    exact ⟨(4, [(1, [1, 2, 3, 0])]), ⟨[.int .i64 4, .slice (some ⟨w0.heap.size + 1, 0, none⟩) 1 1], _, rfl, PF.out.algK ⟨by omega, by omega⟩, PF.out.2.2.mono (by omega) (Nat.le_refl _), TF.out⟩, small_iff.1 (by decide +kernel)⟩
  · go_enter Try.func52, Try.ntmps52
    go_upto_region 21 with fail
    rw [← HW0.out]
    have BR0 := BR
    have dR0 := BR.cell 0
    have dR1 := BR.cell 1
    simp at dR0 dR1
    have gR0 := BR.frozen 0
    have gR1 := BR.frozen 1
    obtain ⟨ws, HWS⟩ : ∃ x, Hid (x = (w0.setCell ⟨w.heap.size, 0, none⟩ (.int .i64 2)).setCell ⟨w.heap.size, 1, none⟩ (.slice (some ⟨w0.heap.size + 1, 0, none⟩) 1 1)) := ⟨_, Lib.hid rfl⟩
    have ews : ws.heap.size = w0.heap.size := by rw [HWS.out]; simp
    have BS : Blk ws w.heap.size 26 #[.int .i64 2, .slice (some ⟨w0.heap.size + 1, 0, none⟩) 1 1] := by rw [HWS.out]; simpa using (BR.set_ 0 (.int .i64 2)).set_ 1 (.slice (some ⟨w0.heap.size + 1, 0, none⟩) 1 1)
    replace T0 : Below w.heap.size w ws := by rw [HWS.out]; exact (T0.setCell (p := ⟨w.heap.size, 0, none⟩) (Nat.le_refl _) _).setCell (p := ⟨w.heap.size, 1, none⟩) (Nat.le_refl _) _
    replace BR := BS
    clear BS
    obtain ⟨w1015, Hw1015⟩ : ∃ x, Hid (x = ws.alloc (.cells #[.int .i64 0, .int .i64 0, .int .i64 0, .int .i64 1, .int .i64 0, .int .i64 1, .int .i64 1, .int .i64 1] 3)) := ⟨_, Lib.hid rfl⟩
    have hbw1015 : Below ws.heap.size ws w1015 := by rw [Hw1015.out]; exact below_box _ _
    replace T0 := below_next T0 hbw1015 rfl
    replace BR := BR.next hbw1015
    have zw1015 := hbw1015.size
    have yw1015 : w1015.heap.size = ws.heap.size + 1 := by rw [Hw1015.out]; simp
    have ew1015 : w1015.heap.size = w0.heap.size + 1 := by omega
    have O0 : shOp.own w1015 [.int .i64 3, .slice (some ⟨w0.heap.size, 0, none⟩) 8 8] (3, [0, 0, 0, 1, 0, 1, 1, 1]) [w0.heap.size] := by
      have := own_tab (w := ws) (a := 3) (L := [0, 0, 0, 1, 0, 1, 1, 1]) (n := 8) ⟨by omega, by omega⟩ rfl (by decide) (by intro x hx; simp at hx; unfold InR; omega)
      rw [ews] at this
      have hh : shOp.own w1015 [.int .i64 3, .slice (some ⟨w0.heap.size, 0, none⟩) 8 8] (3, [0, 0, 0, 1, 0, 1, 1, 1]) [w0.heap.size] := by rw [Hw1015.out]; exact this
      exact hh
    have I0 : Iv ws.heap.size w1015.heap.size [w0.heap.size] := ⟨by simp, fun b hb => by simp at hb; omega⟩
    have hiv : Iv ws.heap.size w1015.heap.size ([[w0.heap.size]].flatten : List Nat) := (Iv.app0 (I0.mono (Nat.le_refl _) (by omega)))
    obtain ⟨w1028, Hw1028⟩ : ∃ x, Hid (x = w1015.alloc (.cells #[.int .i64 3, .slice (some ⟨w0.heap.size, 0, none⟩) 8 8] 72)) := ⟨_, Lib.hid rfl⟩
    have hbw1028 : Below w1015.heap.size w1015 w1028 := by rw [Hw1028.out]; exact below_box _ _
    have hPO : PO ws.heap.size w1028 (.slice (some ⟨w0.heap.size + 1, 0, none⟩) 1 1) [(3, [0, 0, 0, 1, 0, 1, 1, 1])] [[.int .i64 3, .slice (some ⟨w0.heap.size, 0, none⟩) 8 8]] [[w0.heap.size]] := by
      rw [Hw1028.out]
      have := PO.make (n := 1) (cells := #[.int .i64 3, .slice (some ⟨w0.heap.size, 0, none⟩) 8 8]) (OwnL.cons O0 (OwnL.nil _)) hiv (by omega) rfl (by decide) rfl
      rw [ew1015] at this
      exact this
    replace T0 := below_next T0 hbw1028 rfl
    replace BR := BR.next hbw1028
    have zw1028 := hbw1028.size
    have BLF := Lib.hid BR
    have PF := Lib.hid hPO
    have TF := Lib.hid T0
    clear BR hPO T0
    have BA := (BR0.alloc (.cells #[.int .i64 0, .int .i64 0, .int .i64 0, .int .i64 1, .int .i64 0, .int .i64 1, .int .i64 1, .int .i64 1] 3)).alloc (.cells #[.int .i64 3, .slice (some ⟨w0.heap.size, 0, none⟩) 8 8] 72)
    have cR0 := BA.cell 0
    have cR1 := BA.cell 1
    simp at cR0 cR1
    have fR0 := BA.frozen 0
    have fR1 := BA.frozen 1
    clear BA BR0
    clear hiv O0 I0
    go_wp2_with fail
    rw [← HWS.out]
    rw [← Hw1015.out]
    rw [← Hw1028.out]
    (try simp only [Exit.inBlock, Exit.then])
    refine bodyPost_ret (v := .agg #[.int .i64 2, .slice (some ⟨w0.heap.size + 1, 0, none⟩) 1 1]) (results_cell_row rfl _ _ w.heap.size 26 #[.int .i64 2, .slice (some ⟨w0.heap.size + 1, 0, none⟩) 1 1] (0, 0) _ (by simp) BLF.out Try.underlying26 rfl (by kernel_rfl)) rfl ?_
    exact ⟨(2, [(3, [0, 0, 0, 1, 0, 1, 1, 1])]), ⟨[.int .i64 2, .slice (some ⟨w0.heap.size + 1, 0, none⟩) 1 1], _, rfl, PF.out.algK ⟨by omega, by omega⟩, PF.out.2.2.mono (by omega) (Nat.le_refl _), TF.out⟩, small_iff.1 (by decide +kernel)⟩
  · go_enter Try.func52, Try.ntmps52
    go_upto_region 23 with fail
    rw [← HW0.out]
    go_wp2_with fail
    refine (l2Binary_any ⟨#[48, 48, 48, 49, 49, 49, 50, 50, 50]⟩ w0 (by decide)).mono ?_
    rintro e w1003 ⟨cs0, bl0, rfl, O0, I0, hb0⟩
    obtain ⟨A0, n0, c0, rfl, -, -⟩ := rdOp (shOp.ord O0)
    replace T0 := below_next T0 hb0 rfl
    replace BR := BR.next hb0
    have zw1003 := hb0.size
    have hiv : Iv w0.heap.size w1003.heap.size ([bl0].flatten : List Nat) := (Iv.app0 (I0.mono (Nat.le_refl _) (by omega)))
    obtain ⟨w1010, Hw1010⟩ : ∃ x, Hid (x = w1003.alloc (.cells #[.int .i64 2, .slice A0 n0 c0] 72)) := ⟨_, Lib.hid rfl⟩
    have hbw1010 : Below w1003.heap.size w1003 w1010 := by rw [Hw1010.out]; exact below_box _ _
    have hPO : PO w0.heap.size w1010 (.slice (some ⟨w1003.heap.size, 0, none⟩) 1 1) [(2, binL ⟨#[48, 48, 48, 49, 49, 49, 50, 50, 50]⟩)] [[.int .i64 2, .slice A0 n0 c0]] [bl0] := by
      rw [Hw1010.out]
      have := PO.make (n := 1) (cells := #[.int .i64 2, .slice A0 n0 c0]) (OwnL.cons O0 (OwnL.nil _)) hiv (by omega) rfl (by decide) rfl
      exact this
    replace T0 := below_next T0 hbw1010 rfl
    replace BR := BR.next hbw1010
    have zw1010 := hbw1010.size
    have cR0 := BR.cell 0
    have cR1 := BR.cell 1
    simp at cR0 cR1
    have fR0 := BR.frozen 0
    have fR1 := BR.frozen 1
    rw [Hw1010.out] at cR0 cR1 fR0 fR1
    obtain ⟨wf, HWF⟩ : ∃ wf, Hid (wf = (w1010.setCell ⟨w.heap.size, 0, none⟩ (.int .i64 3)).setCell ⟨w.heap.size, 1, none⟩ (.slice (some ⟨w1003.heap.size, 0, none⟩) 1 1)) := ⟨_, Lib.hid rfl⟩
    have BLF : Hid (Blk wf w.heap.size 26 #[.int .i64 3, .slice (some ⟨w1003.heap.size, 0, none⟩) 1 1]) := by show Blk _ _ _ _; rw [HWF.out]; simpa using (BR.set_ 0 (.int .i64 3)).set_ 1 (.slice (some ⟨w1003.heap.size, 0, none⟩) 1 1)
    have hlo : w.heap.size < w0.heap.size := by omega
    have PF : Hid (PO w0.heap.size wf (.slice (some ⟨w1003.heap.size, 0, none⟩) 1 1) [(2, binL ⟨#[48, 48, 48, 49, 49, 49, 50, 50, 50]⟩)] [[.int .i64 2, .slice A0 n0 c0]] [bl0]) := by show PO _ _ _ _ _ _; rw [HWF.out]; exact (hPO.far (p := ⟨w.heap.size, 0, none⟩) hlo _).far (p := ⟨w.heap.size, 1, none⟩) hlo _
    have TF : Hid (Below w.heap.size w wf) := by show Below _ _ _; rw [HWF.out]; exact (T0.setCell (p := ⟨w.heap.size, 0, none⟩) (Nat.le_refl _) _).setCell (p := ⟨w.heap.size, 1, none⟩) (Nat.le_refl _) _
    clear hPO T0 BR hiv O0 I0
    go_wp2_with fail
    rw [← Hw1010.out]
    rw [← HWF.out]
    (try simp only [Exit.inBlock, Exit.then])
    refine bodyPost_ret (v := .agg #[.int .i64 3, .slice (some ⟨w1003.heap.size, 0, none⟩) 1 1]) (results_cell_row rfl _ _ w.heap.size 26 #[.int .i64 3, .slice (some ⟨w1003.heap.size, 0, none⟩) 1 1] (0, 0) _ (by simp) BLF.out Try.underlying26 rfl (by kernel_rfl)) rfl ?_
    exact ⟨(3, [(2, binL ⟨#[48, 48, 48, 49, 49, 49, 50, 50, 50]⟩)]), ⟨[.int .i64 3, .slice (some ⟨w1003.heap.size, 0, none⟩) 1 1], _, rfl, PF.out.algK ⟨by omega, by omega⟩, PF.out.2.2.mono (by omega) (Nat.le_refl _), TF.out⟩, small_iff.1 (by decide +kernel)⟩
  · go_enter Try.func52, Try.ntmps52
    go_upto_region 25 with fail
    rw [← HW0.out]
    go_wp2_with fail
    refine (l2Binary_any ⟨#[48, 48, 48, 48, 48, 48, 49, 48, 48, 49, 48, 48, 50, 48, 50, 48, 48, 48, 51, 51, 48, 49, 50, 51, 52]⟩ w0 (by decide)).mono ?_
    rintro e w1003 ⟨cs0, bl0, rfl, O0, I0, hb0⟩
    obtain ⟨A0, n0, c0, rfl, -, -⟩ := rdOp (shOp.ord O0)
    replace T0 := below_next T0 hb0 rfl
    replace BR := BR.next hb0
    have zw1003 := hb0.size
    go_wp2_with fail
    refine (l2Binary_any ⟨#[48, 49, 50, 51, 52, 49, 49, 52, 52, 52, 50, 52, 50, 52, 52, 51, 52, 52, 51, 52, 52, 52, 52, 52, 52]⟩ w1003 (by decide)).mono ?_
    rintro e w1010 ⟨cs1, bl1, rfl, O1, I1, hb1⟩
    obtain ⟨A1, n1, c1, rfl, -, -⟩ := rdOp (shOp.ord O1)
    replace T0 := below_next T0 hb1 rfl
    replace BR := BR.next hb1
    have zw1010 := hb1.size
    replace O0 := Sh.onext O0 hb1
    have hiv : Iv w0.heap.size w1010.heap.size ([bl0, bl1].flatten : List Nat) := (Iv.app I0 (Iv.app0 (I1.mono (Nat.le_refl _) (by omega))) (by omega) (by omega) (by omega))
    obtain ⟨w1018, Hw1018⟩ : ∃ x, Hid (x = w1010.alloc (.cells #[.int .i64 2, .slice A0 n0 c0, .int .i64 2, .slice A1 n1 c1] 72)) := ⟨_, Lib.hid rfl⟩
    have hbw1018 : Below w1010.heap.size w1010 w1018 := by rw [Hw1018.out]; exact below_box _ _
    have hPO : PO w0.heap.size w1018 (.slice (some ⟨w1010.heap.size, 0, none⟩) 2 2) [(2, binL ⟨#[48, 48, 48, 48, 48, 48, 49, 48, 48, 49, 48, 48, 50, 48, 50, 48, 48, 48, 51, 51, 48, 49, 50, 51, 52]⟩), (2, binL ⟨#[48, 49, 50, 51, 52, 49, 49, 52, 52, 52, 50, 52, 50, 52, 52, 51, 52, 52, 51, 52, 52, 52, 52, 52, 52]⟩)] [[.int .i64 2, .slice A0 n0 c0], [.int .i64 2, .slice A1 n1 c1]] [bl0, bl1] := by
      rw [Hw1018.out]
      have := PO.make (n := 2) (cells := #[.int .i64 2, .slice A0 n0 c0, .int .i64 2, .slice A1 n1 c1]) (OwnL.cons O0 (OwnL.cons O1 (OwnL.nil _))) hiv (by omega) rfl (by decide) rfl
      exact this
    replace T0 := below_next T0 hbw1018 rfl
    replace BR := BR.next hbw1018
    have zw1018 := hbw1018.size
    have cR0 := BR.cell 0
    have cR1 := BR.cell 1
    simp at cR0 cR1
    have fR0 := BR.frozen 0
    have fR1 := BR.frozen 1
    rw [Hw1018.out] at cR0 cR1 fR0 fR1
    obtain ⟨wf, HWF⟩ : ∃ wf, Hid (wf = (w1018.setCell ⟨w.heap.size, 0, none⟩ (.int .i64 5)).setCell ⟨w.heap.size, 1, none⟩ (.slice (some ⟨w1010.heap.size, 0, none⟩) 2 2)) := ⟨_, Lib.hid rfl⟩
    have BLF : Hid (Blk wf w.heap.size 26 #[.int .i64 5, .slice (some ⟨w1010.heap.size, 0, none⟩) 2 2]) := by show Blk _ _ _ _; rw [HWF.out]; simpa using (BR.set_ 0 (.int .i64 5)).set_ 1 (.slice (some ⟨w1010.heap.size, 0, none⟩) 2 2)
    have hlo : w.heap.size < w0.heap.size := by omega
    have PF : Hid (PO w0.heap.size wf (.slice (some ⟨w1010.heap.size, 0, none⟩) 2 2) [(2, binL ⟨#[48, 48, 48, 48, 48, 48, 49, 48, 48, 49, 48, 48, 50, 48, 50, 48, 48, 48, 51, 51, 48, 49, 50, 51, 52]⟩), (2, binL ⟨#[48, 49, 50, 51, 52, 49, 49, 52, 52, 52, 50, 52, 50, 52, 52, 51, 52, 52, 51, 52, 52, 52, 52, 52, 52]⟩)] [[.int .i64 2, .slice A0 n0 c0], [.int .i64 2, .slice A1 n1 c1]] [bl0, bl1]) := by show PO _ _ _ _ _ _; rw [HWF.out]; exact (hPO.far (p := ⟨w.heap.size, 0, none⟩) hlo _).far (p := ⟨w.heap.size, 1, none⟩) hlo _
    have TF : Hid (Below w.heap.size w wf) := by show Below _ _ _; rw [HWF.out]; exact (T0.setCell (p := ⟨w.heap.size, 0, none⟩) (Nat.le_refl _) _).setCell (p := ⟨w.heap.size, 1, none⟩) (Nat.le_refl _) _
    clear hPO T0 BR hiv O0 O1 I0 I1
    go_wp2_with fail
    rw [← Hw1018.out]
    rw [← HWF.out]
    (try simp only [Exit.inBlock, Exit.then])
    refine bodyPost_ret (v := .agg #[.int .i64 5, .slice (some ⟨w1010.heap.size, 0, none⟩) 2 2]) (results_cell_row rfl _ _ w.heap.size 26 #[.int .i64 5, .slice (some ⟨w1010.heap.size, 0, none⟩) 2 2] (0, 0) _ (by simp) BLF.out Try.underlying26 rfl (by kernel_rfl)) rfl ?_
    exact ⟨(5, [(2, binL ⟨#[48, 48, 48, 48, 48, 48, 49, 48, 48, 49, 48, 48, 50, 48, 50, 48, 48, 48, 51, 51, 48, 49, 50, 51, 52]⟩), (2, binL ⟨#[48, 49, 50, 51, 52, 49, 49, 52, 52, 52, 50, 52, 50, 52, 52, 51, 52, 52, 51, 52, 52, 52, 52, 52, 52]⟩)]), ⟨[.int .i64 5, .slice (some ⟨w1010.heap.size, 0, none⟩) 2 2], _, rfl, PF.out.algK ⟨by omega, by omega⟩, PF.out.2.2.mono (by omega) (Nat.le_refl _), TF.out⟩, small_iff.1 (by decide +kernel)⟩
  · go_enter Try.func52, Try.ntmps52
    go_upto_region 27 with fail
    rw [← HW0.out]
    go_wp2_with fail
    refine (l2Binary_any ⟨#[48, 49, 50, 51, 49, 50, 51, 48, 50, 51, 48, 49, 51, 48, 49, 50]⟩ w0 (by decide)).mono ?_
    rintro e w1003 ⟨cs0, bl0, rfl, O0, I0, hb0⟩
    obtain ⟨A0, n0, c0, rfl, -, -⟩ := rdOp (shOp.ord O0)
    replace T0 := below_next T0 hb0 rfl
    replace BR := BR.next hb0
    have zw1003 := hb0.size
    have hiv : Iv w0.heap.size w1003.heap.size ([bl0].flatten : List Nat) := (Iv.app0 (I0.mono (Nat.le_refl _) (by omega)))
    obtain ⟨w1010, Hw1010⟩ : ∃ x, Hid (x = w1003.alloc (.cells #[.int .i64 2, .slice A0 n0 c0] 72)) := ⟨_, Lib.hid rfl⟩
    have hbw1010 : Below w1003.heap.size w1003 w1010 := by rw [Hw1010.out]; exact below_box _ _
    have hPO : PO w0.heap.size w1010 (.slice (some ⟨w1003.heap.size, 0, none⟩) 1 1) [(2, binL ⟨#[48, 49, 50, 51, 49, 50, 51, 48, 50, 51, 48, 49, 51, 48, 49, 50]⟩)] [[.int .i64 2, .slice A0 n0 c0]] [bl0] := by
      rw [Hw1010.out]
      have := PO.make (n := 1) (cells := #[.int .i64 2, .slice A0 n0 c0]) (OwnL.cons O0 (OwnL.nil _)) hiv (by omega) rfl (by decide) rfl
      exact this
    replace T0 := below_next T0 hbw1010 rfl
    replace BR := BR.next hbw1010
    have zw1010 := hbw1010.size
    have cR0 := BR.cell 0
    have cR1 := BR.cell 1
    simp at cR0 cR1
    have fR0 := BR.frozen 0
    have fR1 := BR.frozen 1
    rw [Hw1010.out] at cR0 cR1 fR0 fR1
    obtain ⟨wf, HWF⟩ : ∃ wf, Hid (wf = (w1010.setCell ⟨w.heap.size, 0, none⟩ (.int .i64 4)).setCell ⟨w.heap.size, 1, none⟩ (.slice (some ⟨w1003.heap.size, 0, none⟩) 1 1)) := ⟨_, Lib.hid rfl⟩
    have BLF : Hid (Blk wf w.heap.size 26 #[.int .i64 4, .slice (some ⟨w1003.heap.size, 0, none⟩) 1 1]) := by show Blk _ _ _ _; rw [HWF.out]; simpa using (BR.set_ 0 (.int .i64 4)).set_ 1 (.slice (some ⟨w1003.heap.size, 0, none⟩) 1 1)
    have hlo : w.heap.size < w0.heap.size := by omega
    have PF : Hid (PO w0.heap.size wf (.slice (some ⟨w1003.heap.size, 0, none⟩) 1 1) [(2, binL ⟨#[48, 49, 50, 51, 49, 50, 51, 48, 50, 51, 48, 49, 51, 48, 49, 50]⟩)] [[.int .i64 2, .slice A0 n0 c0]] [bl0]) := by show PO _ _ _ _ _ _; rw [HWF.out]; exact (hPO.far (p := ⟨w.heap.size, 0, none⟩) hlo _).far (p := ⟨w.heap.size, 1, none⟩) hlo _
    have TF : Hid (Below w.heap.size w wf) := by show Below _ _ _; rw [HWF.out]; exact (T0.setCell (p := ⟨w.heap.size, 0, none⟩) (Nat.le_refl _) _).setCell (p := ⟨w.heap.size, 1, none⟩) (Nat.le_refl _) _
    clear hPO T0 BR hiv O0 I0
    go_wp2_with fail
    rw [← Hw1010.out]
    rw [← HWF.out]
    (try simp only [Exit.inBlock, Exit.then])
    refine bodyPost_ret (v := .agg #[.int .i64 4, .slice (some ⟨w1003.heap.size, 0, none⟩) 1 1]) (results_cell_row rfl _ _ w.heap.size 26 #[.int .i64 4, .slice (some ⟨w1003.heap.size, 0, none⟩) 1 1] (0, 0) _ (by simp) BLF.out Try.underlying26 rfl (by kernel_rfl)) rfl ?_
    exact ⟨(4, [(2, binL ⟨#[48, 49, 50, 51, 49, 50, 51, 48, 50, 51, 48, 49, 51, 48, 49, 50]⟩)]), ⟨[.int .i64 4, .slice (some ⟨w1003.heap.size, 0, none⟩) 1 1], _, rfl, PF.out.algK ⟨by omega, by omega⟩, PF.out.2.2.mono (by omega) (Nat.le_refl _), TF.out⟩, small_iff.1 (by decide +kernel)⟩
  · go_enter Try.func52, Try.ntmps52
    go_upto_region 29 with fail
    rw [← HW0.out]
    obtain ⟨w1003, Hw1003⟩ : ∃ x, Hid (x = w0.alloc (.cells #[.int .i64 0, .int .i64 0, .int .i64 1] 3)) := ⟨_, Lib.hid rfl⟩
    have hbw1003 : Below w0.heap.size w0 w1003 := by rw [Hw1003.out]; exact below_box _ _
    replace T0 := below_next T0 hbw1003 rfl
    replace BR := BR.next hbw1003
    have zw1003 := hbw1003.size
    have yw1003 : w1003.heap.size = w0.heap.size + 1 := by rw [Hw1003.out]; simp
    have ew1003 : w1003.heap.size = w0.heap.size + 1 := by omega
    have O0 : shOp.own w1003 [.int .i64 1, .slice (some ⟨w0.heap.size, 0, none⟩) 3 3] (1, [0, 0, 1]) [w0.heap.size] := by
      have := own_tab (w := w0) (a := 1) (L := [0, 0, 1]) (n := 3) ⟨by omega, by omega⟩ rfl (by decide) (by intro x hx; simp at hx; unfold InR; omega)
      have hh : shOp.own w1003 [.int .i64 1, .slice (some ⟨w0.heap.size, 0, none⟩) 3 3] (1, [0, 0, 1]) [w0.heap.size] := by rw [Hw1003.out]; exact this
      exact hh
    have I0 : Iv w0.heap.size w1003.heap.size [w0.heap.size] := ⟨by simp, fun b hb => by simp at hb; omega⟩
    obtain ⟨w1015, Hw1015⟩ : ∃ x, Hid (x = w1003.alloc (.cells #[.int .i64 2] 3)) := ⟨_, Lib.hid rfl⟩
    have hbw1015 : Below w1003.heap.size w1003 w1015 := by rw [Hw1015.out]; exact below_box _ _
    replace T0 := below_next T0 hbw1015 rfl
    replace BR := BR.next hbw1015
    have zw1015 := hbw1015.size
    replace O0 := Sh.onext O0 hbw1015
    have yw1015 : w1015.heap.size = w1003.heap.size + 1 := by rw [Hw1015.out]; simp
    have ew1015 : w1015.heap.size = w0.heap.size + 1 + 1 := by omega
    have O1 : shOp.own w1015 [.int .i64 0, .slice (some ⟨w0.heap.size + 1, 0, none⟩) 1 1] (0, [2]) [w0.heap.size + 1] := by
      have := own_tab (w := w1003) (a := 0) (L := [2]) (n := 1) ⟨by omega, by omega⟩ rfl (by decide) (by intro x hx; simp at hx; unfold InR; omega)
      rw [ew1003] at this
      have hh : shOp.own w1015 [.int .i64 0, .slice (some ⟨w0.heap.size + 1, 0, none⟩) 1 1] (0, [2]) [w0.heap.size + 1] := by rw [Hw1015.out]; exact this
      exact hh
    have I1 : Iv w1003.heap.size w1015.heap.size [w0.heap.size + 1] := ⟨by simp, fun b hb => by simp at hb; omega⟩
    have hiv : Iv w0.heap.size w1015.heap.size ([[w0.heap.size], [w0.heap.size + 1]].flatten : List Nat) := (Iv.app I0 (Iv.app0 (I1.mono (Nat.le_refl _) (by omega))) (by omega) (by omega) (by omega))
    obtain ⟨w1029, Hw1029⟩ : ∃ x, Hid (x = w1015.alloc (.cells #[.int .i64 1, .slice (some ⟨w0.heap.size, 0, none⟩) 3 3, .int .i64 0, .slice (some ⟨w0.heap.size + 1, 0, none⟩) 1 1] 72)) := ⟨_, Lib.hid rfl⟩
    have hbw1029 : Below w1015.heap.size w1015 w1029 := by rw [Hw1029.out]; exact below_box _ _
    have hPO : PO w0.heap.size w1029 (.slice (some ⟨w0.heap.size + 1 + 1, 0, none⟩) 2 2) [(1, [0, 0, 1]), (0, [2])] [[.int .i64 1, .slice (some ⟨w0.heap.size, 0, none⟩) 3 3], [.int .i64 0, .slice (some ⟨w0.heap.size + 1, 0, none⟩) 1 1]] [[w0.heap.size], [w0.heap.size + 1]] := by
      rw [Hw1029.out]
      have := PO.make (n := 2) (cells := #[.int .i64 1, .slice (some ⟨w0.heap.size, 0, none⟩) 3 3, .int .i64 0, .slice (some ⟨w0.heap.size + 1, 0, none⟩) 1 1]) (OwnL.cons O0 (OwnL.cons O1 (OwnL.nil _))) hiv (by omega) rfl (by decide) rfl
      rw [ew1015] at this
      exact this
    replace T0 := below_next T0 hbw1029 rfl
    replace BR := BR.next hbw1029
    have zw1029 := hbw1029.size
    have cR0 := BR.cell 0
    have cR1 := BR.cell 1
    simp at cR0 cR1
    have fR0 := BR.frozen 0
    have fR1 := BR.frozen 1
    rw [Hw1029.out] at cR0 cR1 fR0 fR1
    rw [Hw1015.out] at cR0 cR1 fR0 fR1
    rw [Hw1003.out] at cR0 cR1 fR0 fR1
    obtain ⟨wf, HWF⟩ : ∃ wf, Hid (wf = (w1029.setCell ⟨w.heap.size, 0, none⟩ (.int .i64 3)).setCell ⟨w.heap.size, 1, none⟩ (.slice (some ⟨w0.heap.size + 1 + 1, 0, none⟩) 2 2)) := ⟨_, Lib.hid rfl⟩
    have BLF : Hid (Blk wf w.heap.size 26 #[.int .i64 3, .slice (some ⟨w0.heap.size + 1 + 1, 0, none⟩) 2 2]) := by show Blk _ _ _ _; rw [HWF.out]; simpa using (BR.set_ 0 (.int .i64 3)).set_ 1 (.slice (some ⟨w0.heap.size + 1 + 1, 0, none⟩) 2 2)
    have hlo : w.heap.size < w0.heap.size := by omega
    have PF : Hid (PO w0.heap.size wf (.slice (some ⟨w0.heap.size + 1 + 1, 0, none⟩) 2 2) [(1, [0, 0, 1]), (0, [2])] [[.int .i64 1, .slice (some ⟨w0.heap.size, 0, none⟩) 3 3], [.int .i64 0, .slice (some ⟨w0.heap.size + 1, 0, none⟩) 1 1]] [[w0.heap.size], [w0.heap.size + 1]]) := by show PO _ _ _ _ _ _; rw [HWF.out]; exact (hPO.far (p := ⟨w.heap.size, 0, none⟩) hlo _).far (p := ⟨w.heap.size, 1, none⟩) hlo _
    have TF : Hid (Below w.heap.size w wf) := by show Below _ _ _; rw [HWF.out]; exact (T0.setCell (p := ⟨w.heap.size, 0, none⟩) (Nat.le_refl _) _).setCell (p := ⟨w.heap.size, 1, none⟩) (Nat.le_refl _) _
    clear hPO T0 BR hiv O0 O1 I0 I1
    go_wp2_with fail
    rw [← Hw1003.out]
    rw [← Hw1015.out]
    rw [← Hw1029.out]
    rw [← HWF.out]
    (try simp only [Exit.inBlock, Exit.then])
    refine bodyPost_ret (v := .agg #[.int .i64 3, .slice (some ⟨w0.heap.size + 1 + 1, 0, none⟩) 2 2]) (results_cell_row rfl _ _ w.heap.size 26 #[.int .i64 3, .slice (some ⟨w0.heap.size + 1 + 1, 0, none⟩) 2 2] (0, 0) _ (by simp) BLF.out Try.underlying26 rfl (by kernel_rfl)) rfl ?_
    exact ⟨(3, [(1, [0, 0, 1]), (0, [2])]), ⟨[.int .i64 3, .slice (some ⟨w0.heap.size + 1 + 1, 0, none⟩) 2 2], _, rfl, PF.out.algK ⟨by omega, by omega⟩, PF.out.2.2.mono (by omega) (Nat.le_refl _), TF.out⟩, small_iff.1 (by decide +kernel)⟩
  · go_enter Try.func52, Try.ntmps52
    go_upto_region 31 with fail
    rw [← HW0.out]
    go_wp2_with fail
    refine (l2Binary_any ⟨#[48]⟩ w0 (by decide)).mono ?_
    rintro e w1003 ⟨cs0, bl0, rfl, O0, I0, hb0⟩
    obtain ⟨A0, n0, c0, rfl, -, -⟩ := rdOp (shOp.ord O0)
    replace T0 := below_next T0 hb0 rfl
    replace BR := BR.next hb0
    have zw1003 := hb0.size
    have hiv : Iv w0.heap.size w1003.heap.size ([bl0].flatten : List Nat) := (Iv.app0 (I0.mono (Nat.le_refl _) (by omega)))
    obtain ⟨w1010, Hw1010⟩ : ∃ x, Hid (x = w1003.alloc (.cells #[.int .i64 2, .slice A0 n0 c0] 72)) := ⟨_, Lib.hid rfl⟩
    have hbw1010 : Below w1003.heap.size w1003 w1010 := by rw [Hw1010.out]; exact below_box _ _
    have hPO : PO w0.heap.size w1010 (.slice (some ⟨w1003.heap.size, 0, none⟩) 1 1) [(2, binL ⟨#[48]⟩)] [[.int .i64 2, .slice A0 n0 c0]] [bl0] := by
      rw [Hw1010.out]
      have := PO.make (n := 1) (cells := #[.int .i64 2, .slice A0 n0 c0]) (OwnL.cons O0 (OwnL.nil _)) hiv (by omega) rfl (by decide) rfl
      exact this
    replace T0 := below_next T0 hbw1010 rfl
    replace BR := BR.next hbw1010
    have zw1010 := hbw1010.size
    have cR0 := BR.cell 0
    have cR1 := BR.cell 1
    simp at cR0 cR1
    have fR0 := BR.frozen 0
    have fR1 := BR.frozen 1
    rw [Hw1010.out] at cR0 cR1 fR0 fR1
    obtain ⟨wf, HWF⟩ : ∃ wf, Hid (wf = (w1010.setCell ⟨w.heap.size, 0, none⟩ (.int .i64 1)).setCell ⟨w.heap.size, 1, none⟩ (.slice (some ⟨w1003.heap.size, 0, none⟩) 1 1)) := ⟨_, Lib.hid rfl⟩
    have BLF : Hid (Blk wf w.heap.size 26 #[.int .i64 1, .slice (some ⟨w1003.heap.size, 0, none⟩) 1 1]) := by show Blk _ _ _ _; rw [HWF.out]; simpa using (BR.set_ 0 (.int .i64 1)).set_ 1 (.slice (some ⟨w1003.heap.size, 0, none⟩) 1 1)
    have hlo : w.heap.size < w0.heap.size := by omega
    have PF : Hid (PO w0.heap.size wf (.slice (some ⟨w1003.heap.size, 0, none⟩) 1 1) [(2, binL ⟨#[48]⟩)] [[.int .i64 2, .slice A0 n0 c0]] [bl0]) := by show PO _ _ _ _ _ _; rw [HWF.out]; exact (hPO.far (p := ⟨w.heap.size, 0, none⟩) hlo _).far (p := ⟨w.heap.size, 1, none⟩) hlo _
    have TF : Hid (Below w.heap.size w wf) := by show Below _ _ _; rw [HWF.out]; exact (T0.setCell (p := ⟨w.heap.size, 0, none⟩) (Nat.le_refl _) _).setCell (p := ⟨w.heap.size, 1, none⟩) (Nat.le_refl _) _
    clear hPO T0 BR hiv O0 I0
    go_wp2_with fail
    rw [← Hw1010.out]
    rw [← HWF.out]
    (try simp only [Exit.inBlock, Exit.then])
    refine bodyPost_ret (v := .agg #[.int .i64 1, .slice (some ⟨w1003.heap.size, 0, none⟩) 1 1]) (results_cell_row rfl _ _ w.heap.size 26 #[.int .i64 1, .slice (some ⟨w1003.heap.size, 0, none⟩) 1 1] (0, 0) _ (by simp) BLF.out Try.underlying26 rfl (by kernel_rfl)) rfl ?_
    exact ⟨(1, [(2, binL ⟨#[48]⟩)]), ⟨[.int .i64 1, .slice (some ⟨w1003.heap.size, 0, none⟩) 1 1], _, rfl, PF.out.algK ⟨by omega, by omega⟩, PF.out.2.2.mono (by omega) (Nat.le_refl _), TF.out⟩, small_iff.1 (by decide +kernel)⟩
  · go_enter Try.func52, Try.ntmps52
    go_upto_region 33 with fail
    rw [← HW0.out]
    go_wp2_with fail
    refine (l2Affine3_any w0).mono ?_
    rintro e w1003 ⟨L0, ⟨cs0, bl0, rfl, O0, I0, hb0⟩, hl0, hv0⟩
    obtain ⟨A0, n0, c0, rfl, -, -⟩ := rdOp (shOp.ord O0)
    replace T0 := below_next T0 hb0 rfl
    replace BR := BR.next hb0
    have zw1003 := hb0.size
    have hiv : Iv w0.heap.size w1003.heap.size ([bl0].flatten : List Nat) := (Iv.app0 (I0.mono (Nat.le_refl _) (by omega)))
    obtain ⟨w1010, Hw1010⟩ : ∃ x, Hid (x = w1003.alloc (.cells #[.int .i64 3, .slice A0 n0 c0] 72)) := ⟨_, Lib.hid rfl⟩
    have hbw1010 : Below w1003.heap.size w1003 w1010 := by rw [Hw1010.out]; exact below_box _ _
    have hPO : PO w0.heap.size w1010 (.slice (some ⟨w1003.heap.size, 0, none⟩) 1 1) [(3, L0)] [[.int .i64 3, .slice A0 n0 c0]] [bl0] := by
      rw [Hw1010.out]
      have := PO.make (n := 1) (cells := #[.int .i64 3, .slice A0 n0 c0]) (OwnL.cons O0 (OwnL.nil _)) hiv (by omega) rfl (by decide) rfl
      exact this
    replace T0 := below_next T0 hbw1010 rfl
    replace BR := BR.next hbw1010
    have zw1010 := hbw1010.size
    have cR0 := BR.cell 0
    have cR1 := BR.cell 1
    simp at cR0 cR1
    have fR0 := BR.frozen 0
    have fR1 := BR.frozen 1
    rw [Hw1010.out] at cR0 cR1 fR0 fR1
    obtain ⟨wf, HWF⟩ : ∃ wf, Hid (wf = (w1010.setCell ⟨w.heap.size, 0, none⟩ (.int .i64 3)).setCell ⟨w.heap.size, 1, none⟩ (.slice (some ⟨w1003.heap.size, 0, none⟩) 1 1)) := ⟨_, Lib.hid rfl⟩
    have BLF : Hid (Blk wf w.heap.size 26 #[.int .i64 3, .slice (some ⟨w1003.heap.size, 0, none⟩) 1 1]) := by show Blk _ _ _ _; rw [HWF.out]; simpa using (BR.set_ 0 (.int .i64 3)).set_ 1 (.slice (some ⟨w1003.heap.size, 0, none⟩) 1 1)
    have hlo : w.heap.size < w0.heap.size := by omega
    have PF : Hid (PO w0.heap.size wf (.slice (some ⟨w1003.heap.size, 0, none⟩) 1 1) [(3, L0)] [[.int .i64 3, .slice A0 n0 c0]] [bl0]) := by show PO _ _ _ _ _ _; rw [HWF.out]; exact (hPO.far (p := ⟨w.heap.size, 0, none⟩) hlo _).far (p := ⟨w.heap.size, 1, none⟩) hlo _
    have TF : Hid (Below w.heap.size w wf) := by show Below _ _ _; rw [HWF.out]; exact (T0.setCell (p := ⟨w.heap.size, 0, none⟩) (Nat.le_refl _) _).setCell (p := ⟨w.heap.size, 1, none⟩) (Nat.le_refl _) _
    clear hPO T0 BR hiv O0 I0
    go_wp2_with fail
    rw [← Hw1010.out]
    rw [← HWF.out]
    (try simp only [Exit.inBlock, Exit.then])
    refine bodyPost_ret (v := .agg #[.int .i64 3, .slice (some ⟨w1003.heap.size, 0, none⟩) 1 1]) (results_cell_row rfl _ _ w.heap.size 26 #[.int .i64 3, .slice (some ⟨w1003.heap.size, 0, none⟩) 1 1] (0, 0) _ (by simp) BLF.out Try.underlying26 rfl (by kernel_rfl)) rfl ?_
    exact ⟨(3, [(3, L0)]), ⟨[.int .i64 3, .slice (some ⟨w1003.heap.size, 0, none⟩) 1 1], _, rfl, PF.out.algK ⟨by omega, by omega⟩, PF.out.2.2.mono (by omega) (Nat.le_refl _), TF.out⟩, ⟨by show (1 : Int) ≤ 3; omega, by show (3 : Int) ≤ 5; omega, by simp, fun o ho => by
          rw [List.mem_singleton.1 ho]
          exact ⟨by show (0 : Int) ≤ 3; omega, by show (3 : Int) ≤ 3; omega, hl0, fun v hv => by have := hv0 v hv; simp; omega⟩⟩⟩
  · have hq0 : (k == 0) = false := by simp; omega
    have hq1 : (k == 1) = false := by simp; omega
    have hq2 : (k == 2) = false := by simp; omega
    have hq3 : (k == 3) = false := by simp; omega
    have hq4 : (k == 4) = false := by simp; omega
    have hq5 : (k == 5) = false := by simp; omega
    have hq6 : (k == 6) = false := by simp; omega
    have hq7 : (k == 7) = false := by simp; omega
    have hq8 : (k == 8) = false := by simp; omega
    have hq9 : (k == 9) = false := by simp; omega
    have hq10 : (k == 10) = false := by simp; omega
    have hq11 : (k == 11) = false := by simp; omega
    have hq12 : (k == 12) = false := by simp; omega
    have hq13 : (k == 13) = false := by simp; omega
    have hq14 : (k == 14) = false := by simp; omega
    have hq15 : (k == 15) = false := by simp; omega
    clear hk
    go_enter Try.func52, Try.ntmps52
    go_upto_region 34 with fail
    rw [← HW0.out]
    have hPO : PO w0.heap.size w0 (.slice none 0 0) [] [] [] := PO.nil _ _
    have cR0 := BR.cell 0
    have cR1 := BR.cell 1
    simp at cR0 cR1
    have fR0 := BR.frozen 0
    have fR1 := BR.frozen 1
    obtain ⟨wf, HWF⟩ : ∃ wf, Hid (wf = (w0.setCell ⟨w.heap.size, 0, none⟩ (.int .i64 2)).setCell ⟨w.heap.size, 1, none⟩ (.slice none 0 0)) := ⟨_, Lib.hid rfl⟩
    have BLF : Hid (Blk wf w.heap.size 26 #[.int .i64 2, .slice none 0 0]) := by show Blk _ _ _ _; rw [HWF.out]; simpa using (BR.set_ 0 (.int .i64 2)).set_ 1 (.slice none 0 0)
    have hlo : w.heap.size < w0.heap.size := by omega
    have PF : Hid (PO w0.heap.size wf (.slice none 0 0) [] [] []) := by show PO _ _ _ _ _ _; rw [HWF.out]; exact (hPO.far (p := ⟨w.heap.size, 0, none⟩) hlo _).far (p := ⟨w.heap.size, 1, none⟩) hlo _
    have TF : Hid (Below w.heap.size w wf) := by show Below _ _ _; rw [HWF.out]; exact (T0.setCell (p := ⟨w.heap.size, 0, none⟩) (Nat.le_refl _) _).setCell (p := ⟨w.heap.size, 1, none⟩) (Nat.le_refl _) _
    clear hPO T0 BR  
    go_wp2_with fail
    rw [← HWF.out]
    (try simp only [Exit.inBlock, Exit.then])
    refine bodyPost_ret (v := .agg #[.int .i64 2, .slice none 0 0]) (results_cell_row rfl _ _ w.heap.size 26 #[.int .i64 2, .slice none 0 0] (0, 0) _ (by simp) BLF.out Try.underlying26 rfl (by kernel_rfl)) rfl ?_
    exact ⟨(2, []), ⟨[.int .i64 2, .slice none 0 0], _, rfl, PF.out.algK ⟨by omega, by omega⟩, PF.out.2.2.mono (by omega) (Nat.le_refl _), TF.out⟩, small_iff.1 (by decide +kernel)⟩
section
variable {B : Nat}
/-- A cursor in block g: its code stands in another block, it has gone on by t bytes at most. -/
def CurB (B : Nat) (w : World) (g t : Nat) : Prop := ∃ (A : Option Addr) (n c : Nat) (a : Nat) (s : Int), Blk w g 48 #[.slice A n c, .int .i64 a, .int .u64 s] ∧ n ≤ 65536 ∧ a ≤ t ∧ 0 ≤ s ∧ s < 18446744073709551616 ∧
  (0 < n → ∃ b o, A = some ⟨b, o, none⟩ ∧ b ≠ g ∧ b < B ∧ ∀ i, i < n → ∃ x : Nat, x < 256 ∧ w.cell? ⟨b, o + i, none⟩ = some (.int .u8 x))
theorem grown_setB {w w' : World} {g : Nat} (h : w.grownBy w' (some g)) {p : Addr} (hp : p.block = g) (v : Value) : w.grownBy (w'.setCell p v) (some g) :=
  ⟨h.os, h.tape, h.output, by simpa using h.size, fun k hk hne => (Below.heap_setCell w' p v k (by intro he; rw [he, hp] at hne; exact hne rfl)).trans (h.block k hk hne)⟩
theorem grown_reflB (w : World) (r : Option Nat) : w.grownBy w r := ⟨rfl, rfl, rfl, Nat.le_refl _, fun _ _ _ => rfl⟩
theorem grown_transB {w w1 w2 : World} {r : Option Nat} (h : w.grownBy w1 r) (k : w1.grownBy w2 r) : w.grownBy w2 r :=
  ⟨k.os.trans h.os, k.tape.trans h.tape, k.output.trans h.output, Nat.le_trans h.size k.size, fun b hb hne => (k.block b (Nat.lt_of_lt_of_le hb h.size) hne).trans (h.block b hb hne)⟩
theorem CurB.mono {w : World} {g t t' : Nat} (h : CurB B w g t) (ht : t ≤ t') : CurB B w g t' := by
  obtain ⟨A, n, c, a, s, h1, h2, h3, h4⟩ := h
  exact ⟨A, n, c, a, s, h1, h2, by omega, h4⟩
theorem CurB.next_ {w w' : World} {g t : Nat} (h : CurB B w g t) (hb : Below w.heap.size w w') : CurB B w' g t := by
  obtain ⟨A, n, c, a, s, h1, h2, h3, h4, h5, h6⟩ := h
  refine ⟨A, n, c, a, s, h1.next hb, h2, h3, h4, h5, fun hn => ?_⟩
  obtain ⟨b, o, e, hne, hbB, hc⟩ := h6 hn
  exact ⟨b, o, e, hne, hbB, fun i hi => by
    obtain ⟨x, hx, hcx⟩ := hc i hi
    exact ⟨x, hx, (hb.cell (cell_lt hcx)).trans hcx⟩⟩
theorem u64_rangeB (x : Int) : 0 ≤ IntKind.u64.wrap x ∧ IntKind.u64.wrap x < 18446744073709551616 := by
  unfold IntKind.wrap
  simp [IntKind.signed, IntKind.bits]
  omega
theorem low_byteB (U : Int) (h0 : 0 ≤ U) (h1 : U < 18446744073709551616) : ∃ y : Nat, y < 256 ∧ wrap64 (bits BinOp.and IntKind.u64 (U / 1099511627776) 255) = y := by
  refine ⟨(U / 1099511627776).toNat &&& 255, Nat.lt_succ_of_le (Nat.and_le_right), ?_⟩
  rw [u64_and _ _ (by omega) (by omega) (by decide) (by decide)]
  have := @Nat.and_le_right (U / 1099511627776).toNat 255
  show wrap64 (((U / 1099511627776).toNat &&& 255 : Nat) : Int) = _
  unfold wrap64
  omega
def NextB (B : Nat) (w : World) (g t : Nat) (e : Ending) (w' : World) : Prop := ∃ x : Nat, x < 256 ∧ e = .returned (.int .i64 x) ∧ CurB B w' g t ∧ w.grownBy w' (some g)
theorem cnextB_any (g t : Nat) (w : World) (h : CurB B w g t) (ht : t ≤ 1000000000) :
    Calls Try.prog 84 #[.pointer (some ⟨g, 0, none⟩)] w (NextB B w g (t + 1)) := by
  obtain ⟨A, n, c, a, s, BX, hn, ha, hs0, hs1, hcode⟩ := h
  have c0 := BX.cell 0
  have c1 := BX.cell 1
  have c2 := BX.cell 2
  have f1 := BX.frozen 1
  have f2 := BX.frozen 2
  simp at c0 c1 c2
  by_cases hlt : a < n
  · obtain ⟨b, o, rfl, hbg, hbB, hc⟩ := hcode (by omega)
    obtain ⟨x, hx, hcx⟩ := hc a hlt
    have ha0 : (0 : Int) ≤ (a : Int) := by omega
    have ha1 : (a : Int) < (n : Int) := by omega
    have ha2 : (a : Int) ≤ 1000000000 := by omega
    have ha3 : (a : Int) + 1 ≤ (n : Int) := by omega
    have hwx : IntKind.i64.wrap (x : Int) = x := by unfold IntKind.wrap; simp [IntKind.signed, IntKind.bits]; omega
    go_enter Try.func84, Try.ntmps84
    go_wp2_with fail
    go_still (by kernel_rfl)
    have BX1 : Blk w.drew g 48 #[.slice (some ⟨b, o, none⟩) n c, .int .i64 a, .int .u64 s] := BX.drew
    have hcx1 : w.drew.cell? ⟨b, o + a, none⟩ = some (.int .u8 x) := hcx
    have G1 : w.grownBy w.drew (some g) := ⟨rfl, rfl, rfl, Nat.le_refl _, fun _ _ _ => rfl⟩
    show Exit.then _ _ Exit.normal _ w.drew
    generalize w.drew = w1 at BX1 hcx1 G1 ⊢
    clear c0 c1 c2 f1 f2
    have c0 := BX1.cell 0
    have c1 := BX1.cell 1
    have c2 := BX1.cell 2
    have f1 := BX1.frozen 1
    have f2 := BX1.frozen 2
    simp at c0 c1 c2
    go_wp2_with fail
    go_still (by kernel_rfl)
    have BX2 : Blk w1.drew g 48 #[.slice (some ⟨b, o, none⟩) n c, .int .i64 a, .int .u64 s] := BX1.drew
    have G2 : w.grownBy w1.drew (some g) := grown_transB G1 ⟨rfl, rfl, rfl, Nat.le_refl _, fun _ _ _ => rfl⟩
    show Exit.then _ _ Exit.normal _ w1.drew
    generalize w1.drew = w2 at BX2 G2 ⊢
    clear c0 c1 c2 f1 f2
    have c0 := BX2.cell 0
    have c1 := BX2.cell 1
    have c2 := BX2.cell 2
    have f1 := BX2.frozen 1
    have f2 := BX2.frozen 2
    simp at c0 c1 c2
    go_wp2_with fail
    obtain ⟨U, HU⟩ : ∃ U, Hid (IntKind.u64.wrap (IntKind.u64.wrap (IntKind.u64.wrap (s * 6364136223846793005) + ↑x) + 550289) = U) := ⟨_, rfl⟩
    have hU : 0 ≤ U ∧ U < 18446744073709551616 := by rw [← HU.out]; exact u64_rangeB _
    rw [HU.out]
    have BX3 : Blk ((w2.setCell ⟨g, 1, none⟩ (.int .i64 ((a : Int) + 1))).setCell ⟨g, 2, none⟩ (.int .u64 U)) g 48 #[.slice (some ⟨b, o, none⟩) n c, .int .i64 ((a + 1 : Nat) : Int), .int .u64 U] := by
      have h2 := (BX2.set_ 1 (.int .i64 ((a : Int) + 1))).set_ 2 (.int .u64 U)
      simpa using h2
    have G3 := grown_setB (grown_setB G2 (p := ⟨g, 1, none⟩) rfl (.int .i64 ((a : Int) + 1))) (p := ⟨g, 2, none⟩) rfl (.int .u64 U)
    generalize (w2.setCell ⟨g, 1, none⟩ (.int .i64 ((a : Int) + 1))).setCell ⟨g, 2, none⟩ (.int .u64 U) = w3 at BX3 G3 ⊢
    clear c0 c1 c2 f1 f2
    have c0 := BX3.cell 0
    have c1 := BX3.cell 1
    simp at c0 c1
    go_still (by kernel_rfl)
    have BX4 : Blk w3.drew g 48 #[.slice (some ⟨b, o, none⟩) n c, .int .i64 ((a + 1 : Nat) : Int), .int .u64 U] := BX3.drew
    have G4 : w.grownBy w3.drew (some g) := grown_transB G3 ⟨rfl, rfl, rfl, Nat.le_refl _, fun _ _ _ => rfl⟩
    show Exit.then _ _ Exit.normal _ w3.drew
    generalize w3.drew = w4 at BX4 G4 ⊢
    go_wp2_with fail
    go_ret
    exact ⟨x, hx, rfl, ⟨_, n, c, a + 1, U, BX4, hn, by omega, hU.1, hU.2, fun _ => ⟨b, o, rfl, hbg, hbB, fun i hi => by
      obtain ⟨y, hy, hcy⟩ := hc i hi
      exact ⟨y, hy, (World.cell?_of_block (G4.block b (cell_lt hcy) (by simpa using hbg))).trans hcy⟩⟩⟩, G4⟩
  · have ha0 : (0 : Int) ≤ (a : Int) := by omega
    have ha1 : ¬ (a : Int) < (n : Int) := by omega
    have ha2 : (a : Int) ≤ 1000000000 := by omega
    have ha3 : ¬ (a : Int) + 1 ≤ (n : Int) := by omega
    go_enter Try.func84, Try.ntmps84
    go_wp2_with fail
    go_still (by kernel_rfl)
    have BX2 : Blk w.drew g 48 #[.slice A n c, .int .i64 a, .int .u64 s] := BX.drew
    have G2 : w.grownBy w.drew (some g) := ⟨rfl, rfl, rfl, Nat.le_refl _, fun _ _ _ => rfl⟩
    show Exit.then _ _ Exit.normal _ w.drew
    generalize w.drew = w2 at BX2 G2 ⊢
    clear c0 c1 c2 f1 f2
    have c0 := BX2.cell 0
    have c1 := BX2.cell 1
    have c2 := BX2.cell 2
    have f1 := BX2.frozen 1
    have f2 := BX2.frozen 2
    simp at c0 c1 c2
    go_wp2_with fail
    obtain ⟨U, HU⟩ : ∃ U, Hid (IntKind.u64.wrap (IntKind.u64.wrap (IntKind.u64.wrap (s * 6364136223846793005)) + 550289) = U) := ⟨_, rfl⟩
    have hU : 0 ≤ U ∧ U < 18446744073709551616 := by rw [← HU.out]; exact u64_rangeB _
    rw [HU.out]
    have BX3 : Blk ((w2.setCell ⟨g, 1, none⟩ (.int .i64 ((a : Int) + 1))).setCell ⟨g, 2, none⟩ (.int .u64 U)) g 48 #[.slice A n c, .int .i64 ((a + 1 : Nat) : Int), .int .u64 U] := by
      have h2 := (BX2.set_ 1 (.int .i64 ((a : Int) + 1))).set_ 2 (.int .u64 U)
      simpa using h2
    have G3 := grown_setB (grown_setB G2 (p := ⟨g, 1, none⟩) rfl (.int .i64 ((a : Int) + 1))) (p := ⟨g, 2, none⟩) rfl (.int .u64 U)
    generalize (w2.setCell ⟨g, 1, none⟩ (.int .i64 ((a : Int) + 1))).setCell ⟨g, 2, none⟩ (.int .u64 U) = w3 at BX3 G3 ⊢
    clear c0 c1 c2 f1 f2
    have c0 := BX3.cell 0
    have c1 := BX3.cell 1
    simp at c0 c1
    go_still (by kernel_rfl)
    have BX4 : Blk w3.drew g 48 #[.slice A n c, .int .i64 ((a + 1 : Nat) : Int), .int .u64 U] := BX3.drew
    have G4 : w.grownBy w3.drew (some g) := grown_transB G3 ⟨rfl, rfl, rfl, Nat.le_refl _, fun _ _ _ => rfl⟩
    show Exit.then _ _ Exit.normal _ w3.drew
    generalize w3.drew = w4 at BX4 G4 ⊢
    have c2 := BX4.cell 2
    simp at c2
    go_wp2_with fail
    obtain ⟨y, hy, hye⟩ := low_byteB U hU.1 hU.2
    go_ret
    refine ⟨y, hy, ret_int hye, ⟨_, n, c, a + 1, U, BX4, hn, by omega, hU.1, hU.2, fun hn => ?_⟩, G4⟩
    obtain ⟨b, o, e, hbg, hbB, hc⟩ := hcode hn
    exact ⟨b, o, e, hbg, hbB, fun i hi => by
      obtain ⟨y, hy, hcy⟩ := hc i hi
      exact ⟨y, hy, (World.cell?_of_block (G4.block b (cell_lt hcy) (by simpa using hbg))).trans hcy⟩⟩
def PickB (B : Nat) (w : World) (g t : Nat) (n : Int) (e : Ending) (w' : World) : Prop := ∃ x : Nat, ((x : Int) < n ∨ x = 0) ∧ e = .returned (.int .i64 x) ∧ CurB B w' g t ∧ w.grownBy w' (some g)
theorem mod_natB {x n : Int} (hn : 0 < n) : ∃ z : Nat, (z : Int) < n ∧ x % n = z := by
  have h1 := Int.emod_nonneg x (show n ≠ 0 by omega)
  have h2 := Int.emod_lt_of_pos x hn
  exact ⟨(x % n).toNat, by omega, by omega⟩
theorem pickB_any (g t : Nat) (n : Int) (w : World) (h : CurB B w g t) (ht : t ≤ 999999998) (hn : n ≤ 9223372036854775807) :
    Calls Try.prog 54 #[.pointer (some ⟨g, 0, none⟩), .int .i64 n] w (PickB B w g (t + 2) n) := by
  go_enter Try.func54, Try.ntmps54
  by_cases h1 : n ≤ 1
  · go_wp2_with fail
    go_ret
    exact ⟨0, .inr rfl, rfl, h.mono (by omega), grown_reflB _ _⟩
  · go_wp2_with fail
    refine (cnextB_any g t _ h (by omega)).mono ?_
    rintro e w1 ⟨x, hx, rfl, hc1, hg1⟩
    have hx0 : (0 : Int) ≤ (x : Int) := by omega
    have hx1 : (x : Int) < 256 := by omega
    by_cases h2 : 200 < n
    · go_wp2_with fail
      refine (cnextB_any g (t + 1) _ hc1 (by omega)).mono ?_
      rintro e w2 ⟨y, hy, rfl, hc2, hg2⟩
      have hy0 : (0 : Int) ≤ (y : Int) := by omega
      have hy1 : (y : Int) < 256 := by omega
      have hG := grown_transB hg1 hg2
      go_wp2_with fail
      obtain ⟨z, hz, hze⟩ := mod_natB (x := (x : Int) * 256 + y) (n := n) (by omega)
      go_ret
      exact ⟨z, .inl hz, ret_int hze, hc2, hG⟩
    · go_wp2_with fail
      obtain ⟨z, hz, hze⟩ := mod_natB (x := (x : Int)) (n := n) (by omega)
      go_ret
      exact ⟨z, .inl hz, ret_int hze, hc1.mono (by omega), hg1⟩
theorem oneB_any (g t : Nat) (n : Int) (w : World) (h : CurB B w g t) (ht : t ≤ 999999998) (hn : n ≤ 9223372036854775807) :
    Calls Try.prog 27 #[.pointer (some ⟨g, 0, none⟩), .int .i64 n] w (fun e w' => ∃ b, e = .returned (.bool b) ∧ CurB B w' g (t + 2) ∧ w.grownBy w' (some g)) := by
  go_enter Try.func27, Try.ntmps27
  go_wp2_with fail
  refine (pickB_any g t n _ h ht hn).mono ?_
  rintro e w1 ⟨x, -, rfl, hc1, hg1⟩
  go_wp2_with fail
  go_ret
  exact ⟨_, rfl, hc1, hg1⟩
/-- A list of numbers that may be picked from. -/
def NumsP (P : Int → Prop) (w : World) (g b n : Nat) : Prop := b ≠ g ∧ 0 < n ∧ n ≤ 1000 ∧ ∀ i, i < n → ∃ x : Int, P x ∧ w.cell? ⟨b, i, none⟩ = some (.int .i64 x)
theorem amongB_any (g t b n c : Nat) (w : World) (h : CurB B w g t) (ht : t ≤ 999999998) (P : Int → Prop) (hl : NumsP P w g b n) :
    Calls Try.prog 53 #[.pointer (some ⟨g, 0, none⟩), .slice (some ⟨b, 0, none⟩) n c] w (fun e w' => ∃ x : Int, P x ∧ e = .returned (.int .i64 x) ∧ CurB B w' g (t + 2) ∧ w.grownBy w' (some g)) := by
  obtain ⟨hbg, hn0, hn1, hc⟩ := hl
  go_enter Try.func53, Try.ntmps53
  go_wp2_with fail
  refine (pickB_any g t n _ h ht (by omega)).mono ?_
  rintro e w1 ⟨x, hx, rfl, hc1, hg1⟩
  have hxn : x < n := by omega
  have hx0 : (0 : Int) ≤ (x : Int) := by omega
  have hx1 : (x : Int) < (n : Int) := by omega
  obtain ⟨y, hy0, hcs⟩ := hc x hxn
  have hcs1 : w1.cell? ⟨b, x, none⟩ = some (.int .i64 y) := (World.cell?_of_block (hg1.block b (cell_lt hcs) (by simpa using hbg))).trans hcs
  clear hx
  go_wp2_with fail
  go_ret
  exact ⟨y, hy0, rfl, hc1, hg1⟩
theorem CurB.lt {w : World} {g t : Nat} (h : CurB B w g t) : g < w.heap.size := by
  obtain ⟨A, n, c, a, s, h1, -⟩ := h
  exact h1.lt
theorem CurB.grown {w w' : World} {g t : Nat} {row : Option Nat} (h : CurB B w g t) (hg : w.grownBy w' row) (hr : ∀ r, row = some r → B ≤ r ∧ r ≠ g) : CurB B w' g t := by
  obtain ⟨A, n, c, a, s, h1, h2, h3, h4, h5, h6⟩ := h
  refine ⟨A, n, c, a, s, h1.grown hg (fun e => (hr g e.symm).2 rfl), h2, h3, h4, h5, fun hn => ?_⟩
  obtain ⟨b, o, e, hne, hbB, hc⟩ := h6 hn
  exact ⟨b, o, e, hne, hbB, fun i hi => by
    obtain ⟨x, hx, hcx⟩ := hc i hi
    exact ⟨x, hx, (World.cell?_of_block (hg.block b (cell_lt hcx) (fun e => by have := (hr b e.symm).1; omega))).trans hcx⟩⟩
def CodeB (w : World) (A : Option Addr) (n : Nat) : Prop := n ≤ 65536 ∧ (0 < n → ∃ b o, A = some ⟨b, o, none⟩ ∧ ∀ i, i < n → ∃ x : Nat, x < 256 ∧ w.cell? ⟨b, o + i, none⟩ = some (.int .u8 x))
theorem CodeB.next {w w' : World} {A : Option Addr} {n : Nat} (h : CodeB w A n) (hb : Below w.heap.size w w') : CodeB w' A n := by
  refine ⟨h.1, fun hn => ?_⟩
  obtain ⟨b, o, e, hc⟩ := h.2 hn
  exact ⟨b, o, e, fun i hi => by
    obtain ⟨x, hx, hcx⟩ := hc i hi
    exact ⟨x, hx, (hb.cell (cell_lt hcx)).trans hcx⟩⟩
theorem CurB.made {w : World} {A : Option Addr} {n c : Nat} (h : CodeB w A n) {k : Nat} (hk : k = w.heap.size) : CurB k (w.alloc (.cells #[.slice A n c, .int .i64 0, .int .u64 0] 48)) k 0 := by
  subst hk
  refine ⟨A, n, c, 0, 0, Blk.new _ _ _, h.1, Nat.zero_le _, by omega, by omega, fun hn => ?_⟩
  obtain ⟨b, o, e, hc⟩ := h.2 hn
  obtain ⟨x0, -, hc0⟩ := hc 0 hn
  have hlt := cell_lt hc0
  exact ⟨b, o, e, Nat.ne_of_lt hlt, hlt, fun i hi => by
    obtain ⟨x, hx, hcx⟩ := hc i hi
    exact ⟨x, hx, ((below_box w _).cell (cell_lt hcx)).trans hcx⟩⟩
end
theorem growB_trans {w w1 w2 : World} {r : Option Nat} (h : w.grownBy w1 r) (k : w1.grownBy w2 r) : w.grownBy w2 r :=
  ⟨k.os.trans h.os, k.tape.trans h.tape, k.output.trans h.output, Nat.le_trans h.size k.size, fun b hb hne => (k.block b (Nat.lt_of_lt_of_le hb h.size) hne).trans (h.block b hb hne)⟩
theorem growB_own {w w1 w2 : World} {r row : Option Nat} (h : w.grownBy w1 r) (k : w1.grownBy w2 row) (hr : ∀ q, row = some q → w.heap.size ≤ q) : w.grownBy w2 r :=
  ⟨k.os.trans h.os, k.tape.trans h.tape, k.output.trans h.output, Nat.le_trans h.size k.size, fun b hb hne => (k.block b (Nat.lt_of_lt_of_le hb h.size) (fun e => by have := hr b e.symm; omega)).trans (h.block b hb hne)⟩
theorem growB_box {w w1 : World} {r : Option Nat} (h : w.grownBy w1 r) (o : Obj) : w.grownBy (w1.alloc o) r :=
  ⟨h.os, h.tape, h.output, Nat.le_trans h.size (by simp), fun b hb hne => (Below.heap_alloc w1 o b (Nat.lt_of_lt_of_le hb h.size)).trans (h.block b hb hne)⟩
theorem own_grownG {w w' : World} {base size n g : Nat} {e : TypeId} {v : Value} {xs : List Value} (h : w.ownsRow base e size v n xs) (hg : w.grownBy w' (some g)) (hb : g < base) : w'.ownsRow base e size v n xs :=
  own_same h fun b hv => hg.block b (h.lt b hv).2 (fun e => by injection e with e; have := (h.lt b hv).1; omega)
theorem NumsP.grown {P : Int → Prop} {w w' : World} {g b n : Nat} (h : NumsP P w g b n) (hg : w.grownBy w' (some g)) : NumsP P w' g b n :=
  ⟨h.1, h.2.1, h.2.2.1, fun i hi => by
    obtain ⟨x, hx, hc⟩ := h.2.2.2 i hi
    exact ⟨x, hx, (World.cell?_of_block (hg.block b (cell_lt hc) (by simpa using h.1))).trans hc⟩⟩
theorem toGr {w w' : World} {r : Option Nat} (h : Below w.heap.size w w') : w.grownBy w' r := ⟨h.os, h.tape, h.output, h.size, fun b hb _ => h.block b hb⟩
theorem ints_snocG (xs : List Int) (y : Int) : ints xs ++ [.int .i64 y] = ints (xs ++ [y]) := by simp [ints]
end Go.Proofs.Ytbkgbckbbnflpaa
