
/- Walks: CountCopies, of the program and of the reference. -/
import Derived.Test.YtppnmpeicmlneaaSym4
import Derived.Test.YtppnmpeicmlneaaGrp
namespace Go.Proofs.Ytppnmpeicmlneaa
open Go.RowKit

theorem placeF_mem (p : List Int) : ∀ (l : List (List Int)) (k : Int), 0 ≤ k → (0 ≤ placeFrom p l k ↔ p ∈ l)
  | [], k, _ => by simp [placeFrom]
  | q :: l, k, hk => by
    rw [placeFrom]
    rcases e : eqL p q with _ | _
    · rw [if_neg (by simp), placeF_mem p l (k + 1) (by omega), List.mem_cons]
      exact ⟨.inr, fun h => h.resolve_left fun h => by rw [eqL_iff.2 h] at e; cases e⟩
    · rw [if_pos rfl, eqL_iff.1 e]
      simp [hk]
theorem place_mem {p : List Int} {xss : List (List Int)} : 0 ≤ place xss p ↔ p ∈ xss := placeF_mem p xss 0 (Int.le_refl _)
noncomputable def ccL (x : AlgebraM) (l : List (List Int)) : List (List Int) := once (fun p => codeL (ren x p).2) l
noncomputable def ccM (x : AlgebraM) : Int := if smallB x then ((ccL x (ords x.1.toNat x.1.toNat [])).length : Int) else 0
theorem ccL_snoc (x : AlgebraM) (l : List (List Int)) (p : List Int) : ccL x (l ++ [p]) = if 0 ≤ place (ccL x l) (codeL (ren x p).2) then ccL x l else ccL x l ++ [codeL (ren x p).2] := by
  unfold ccL
  rw [once_snoc]
  rcases e : ((once (fun p => codeL (ren x p).2) l).any fun c => eqC c (codeL (ren x p).2)) with _ | _
  · rw [if_neg (by simp), if_neg]
    intro h
    rw [any_eqC.2 (place_mem.1 h)] at e
    cases e
  · rw [if_pos rfl, if_pos]
    exact place_mem.2 (any_eqC.1 e)
theorem ccL_len (x : AlgebraM) (l : List (List Int)) : (ccL x l).length ≤ l.length := by
  have h := once_iff (fun p => codeL (ren x p).2) l
  have := nodup_sub' (m := l.map fun p => codeL (ren x p).2) h.1 fun c hc => List.mem_map.2 ((h.2 c).1 hc)
  rwa [List.length_map] at this
theorem facN_le {n : Nat} (h : n ≤ 5) : facN n ≤ 120 := by
  have : ∀ k : Fin 6, facN k.val ≤ 120 := by decide
  exact this ⟨n, by omega⟩
theorem cc_quo {x : AlgebraM} (hx : SmallP x) {n : Nat} (hn : x.1.toNat = n) : 0 < (symL x (ords n n [])).length ∧ wrap64 ((facN n : Int) / ((symL x (ords n n [])).length : Int)) = ((ccL x (ords n n [])).length : Int) := by
  subst hn
  have h1 := copies hx
  have h5 : x.1.toNat ≤ 5 := by have := hx.2.1; omega
  rw [ords_fac h5] at h1
  have h2 : upTo x.1.toNat ∈ symL x (ords x.1.toNat x.1.toNat []) := List.mem_filter.2 ⟨ords_mem.2 (upTo_perm _), eqC_iff.2 (ren_up hx)⟩
  have h3 := List.length_pos_of_mem h2
  refine ⟨h3, ?_⟩
  have e : (facN x.1.toNat : Int) = ((ccL x (ords x.1.toNat x.1.toNat [])).length : Int) * ((symL x (ords x.1.toNat x.1.toNat [])).length : Int) := by rw [h1]; exact Int.natCast_mul _ _
  have h6 : (ccL x (ords x.1.toNat x.1.toNat [])).length ≤ 4096 := Nat.le_trans (ccL_len _ _) (by rw [ords_fac h5]; have := facN_le h5; omega)
  rw [e, Int.mul_ediv_cancel _ (by omega)]
  exact IntWalk.wrap64_in _ ⟨by omega, by omega⟩
set_option maxRecDepth 20000 in
set_option maxHeartbeats 8000000 in
theorem implCC_any (cs : List Value) (x : AlgebraM) (w : World) (h : shAlgebra.rd w cs x) :
    Calls Try.prog 39 #[.agg cs.toArray] w (Bl w (.tuple #[.int .i64 (ccM x), .bool (smallB x)])) := by
  have hrd := h
  obtain ⟨B, m, d, rfl, qs, qo⟩ := rdAlgebra h
  obtain ⟨w0, hw0, T0, hsz0, BP⟩ := boxes1 w #[.int .i64 x.1, .slice B m d] 41
  have HW0 := Lib.hid hw0
  clear hw0
  obtain ⟨r, hr⟩ : ∃ r, smallB x = r := ⟨_, rfl⟩
  have HM : Hid (ccM x = if r then ((ccL x (ords x.1.toNat x.1.toNat [])).length : Int) else 0) := by show _ = _; unfold ccM; rw [hr]
  have HS := Lib.hid hr
  rw [hr]
  clear hr
  go_enter Try.func39, Try.ntmps39
  go_wp2_with fail
  rw [← HW0.out]
  refine (isNamed_any _ x _ (shAlgebra.stab hrd T0.block)).mono ?_
  rintro e w1 ⟨rfl, hb1⟩
  rw [HS.out]
  have T1 := below_next T0 hb1 rfl
  have BP1 := BP.next hb1
  have cP0 := BP1.cell 0
  have cP1 := BP1.cell 1
  simp at cP0 cP1
  rcases r with _ | _
  · have HM0 : Hid (ccM x = 0) := by show _ = _; rw [HM.out]; rfl
    go_wp2_with fail
    go_ret2
    rw [HM0.out]
    exact ⟨rfl, T1⟩
  · have hx := small_iff.1 HS.out
    obtain ⟨n, hn⟩ : ∃ n : Nat, x.1 = (n : Int) := ⟨x.1.toNat, by have h1 := hx.1; omega⟩
    have hn1 : 1 ≤ n := by have h1 := hx.1; omega
    have hn5 : n ≤ 5 := by have h1 := hx.2.1; omega
    have hnn : x.1.toNat = n := by omega
    have HM0 : Hid (ccM x = ((ccL x (ords n n [])).length : Int)) := by show _ = _; rw [HM.out, hnn]; rfl
    have HQ := Lib.hid (cc_quo hx hnn)
    have HSY : Hid (Calls Try.prog 91 #[.agg #[.int .i64 (n : Int), .slice B m d]] w1 (OwSS w1 (symL x (ords n n [])))) := by
      have := symmetries_any [.int .i64 x.1, .slice B m d] x w1 (shAlgebra.stab hrd T1.block) hx
      rw [hnn, hn] at this
      exact this
    rw [hn] at cP0
    clear hn hnn HM hx
    go_wp2_with fail
    go_loop [4, 5] (fun a i => ∃ k : Nat, 1 ≤ k ∧ k ≤ n ∧ i = .int .i64 ((k : Int) + 1) ∧ a = .int .i64 (facN k)) (fun _ i => n + 1 - (intOf i).toNat)
    case atStart => exact ⟨1, by omega, hn1, rfl, rfl⟩
    case round =>
      obtain ⟨k, hk1, hk2, rfl, rfl⟩ := hrel
      have hf := facN_le (n := k) (by omega)
      by_cases hlt : k < n
      · have hf2 := facN_le (n := k + 1) (by omega)
        have HF : Hid ((facN (k + 1) : Int) = (facN k : Int) * ((k : Int) + 1)) := by show _ = _; rw [facN]; simp
        have hb1 : (facN k : Int) * ((k : Int) + 1) ≤ 120 := by rw [← HF.out]; omega
        have hb0 : 0 ≤ (facN k : Int) * ((k : Int) + 1) := by rw [← HF.out]; omega
        have hw : wrap64 ((facN k : Int) * ((k : Int) + 1)) = (facN k : Int) * ((k : Int) + 1) := IntWalk.wrap64_in _ ⟨by omega, by omega⟩
        have hle : (k : Int) + 1 ≤ (n : Int) := by omega
        go_wp2_with fail
        go_round
        case rel => exact ⟨k + 1, by omega, by omega, by go_num, by rw [HF.out]⟩
        case measure => simp [intOf]; omega
      · obtain rfl : k = n := by omega
        have hle : ¬ (k : Int) + 1 ≤ (k : Int) := by omega
        go_wp2_with fail
        refine HSY.out.mono ?_
        rintro e w2 ⟨A, c, vs, rfl, -, hb2⟩
        have T2 := below_next T1 hb2 rfl
        obtain ⟨S, HSd⟩ : ∃ S, Hid ((symL x (ords k k [])).length = S) := ⟨_, rfl⟩
        rw [HSd.out] at HQ ⊢
        have hS0 : 0 < (S : Int) := by have := HQ.out.1; omega
        have hS1 : (S : Int) ≤ 9223372036854775807 := by
          rw [← HSd.out]
          have h1 := List.length_filter_le (symF x) (ords k k [])
          have h2 := Nat.le_trans (ords_len k []) (pow5 hn5 hn5)
          have h3 : (symL x (ords k k [])).length ≤ 3125 := Nat.le_trans h1 h2
          omega
        have HQ2 := Lib.hid HQ.out.2
        clear HQ
        go_wp2_with fail
        go_ret2
        rw [HM0.out]
        refine ⟨?_, T2⟩
        show Ending.returned (.tuple #[.int .i64 (wrap64 ((facN k : Int) / (S : Int))), .bool true]) = _
        rw [HQ2.out]

/-! ## The reference -/
def CodeS (w : World) (L : List Int) (v : Value) (w' : World) : Prop := ∃ A c, v = .slice A L.length c ∧ w'.ownsRow w.heap.size 3 1 (.slice A L.length c) L.length (ints L) ∧ Below w.heap.size w w'
set_option maxRecDepth 20000 in
set_option maxHeartbeats 8000000 in
theorem specCC_any (cs : List Value) (x : AlgebraM) (w : World) (h : shAlgebra.rd w cs x) :
    Calls Try.prog 38 #[.agg cs.toArray] w (Bl w (.tuple #[.int .i64 (ccM x), .bool (smallB x)])) := by
  have hrd := h
  obtain ⟨B, m, d, rfl, qs, qo⟩ := rdAlgebra h
  obtain ⟨w0, hw0, T0, hsz0, BP⟩ := boxes1 w #[.int .i64 x.1, .slice B m d] 41
  have HW0 := Lib.hid hw0
  clear hw0
  obtain ⟨r, hr⟩ : ∃ r, smallB x = r := ⟨_, rfl⟩
  have HM : Hid (ccM x = if r then ((ccL x (ords x.1.toNat x.1.toNat [])).length : Int) else 0) := by show _ = _; unfold ccM; rw [hr]
  have HS := Lib.hid hr
  rw [hr]
  clear hr
  go_enter Try.func38, Try.ntmps38
  go_wp2_with fail
  rw [← HW0.out]
  refine (l31Takes_any _ x _ (shAlgebra.stab hrd T0.block)).mono ?_
  rintro e w1 ⟨rfl, hb1⟩
  rw [HS.out]
  have T1 := below_next T0 hb1 rfl
  have hlow1 := T1.size
  replace BP := BP.next hb1
  have cP0 := BP.cell 0
  have cP1 := BP.cell 1
  simp at cP0 cP1
  rcases r with _ | _
  · have HM0 : Hid (ccM x = 0) := by show _ = _; rw [HM.out]; rfl
    go_wp2_with fail
    go_ret2
    rw [HM0.out]
    exact ⟨rfl, T1⟩
  · have hx := small_iff.1 HS.out
    have HX := Lib.hid hx
    obtain ⟨n, hn⟩ : ∃ n : Nat, x.1 = (n : Int) := ⟨x.1.toNat, by have h1 := hx.1; omega⟩
    have hn5 : n ≤ 5 := by have h1 := hx.2.1; omega
    have HNN : Hid (x.1.toNat = n) := by show _ = _; omega
    obtain ⟨AL, HAL⟩ : ∃ AL, Hid (ords n n [] = AL) := ⟨_, rfl⟩
    have HM0 : Hid (ccM x = ((ccL x AL).length : Int)) := by show _ = _; rw [HM.out, HNN.out, HAL.out]; rfl
    have HALL : Hid (∀ p ∈ AL, PermL n p) := by have := all_perm (x := x); rw [HNN.out, HAL.out] at this; exact this
    have hALlen : AL.length ≤ 3125 := by rw [← HAL.out]; exact Nat.le_trans (ords_len n []) (pow5 hn5 hn5)
    rw [hn] at hrd cP0 qs BP
    obtain ⟨w2, hw2, T2, hsz2, -⟩ := boxes1 w1 #[] 22
    have HW2 : Hid (_ = w2) := hw2.symm
    have ho2 : w2.ownsRow w.heap.size 22 1 (.slice (some ⟨w1.heap.size, 0, none⟩) 0 0) 0 [] := by rw [hw2]; exact World.ownsRow_lit _ _ _ hlow1 (Nat.zero_le _) rfl
    replace BP := BP.next T2
    have cQ0 := BP.cell 0
    have cQ1 := BP.cell 1
    simp at cQ0 cQ1
    have T2w := below_next T1 T2 rfl
    obtain ⟨w3, hw3, T3, hsz3, -⟩ := boxes1 w2 #[] 3
    have HW3 : Hid (_ = w3) := hw3.symm
    have R3 : RdL RI w3 (some ⟨w2.heap.size, 0, none⟩) 0 [] := RdL.nil _ _ _
    have HNM : Hid (Calls Try.prog 88 #[.int .i64 n, .slice (some ⟨w2.heap.size, 0, none⟩) 0 0] w3 (NmE w3 AL)) := by
      have := l31Names_any n hn5 n _ 0 0 [] w3 R3 (Nat.zero_add _)
      rw [HAL.out] at this
      exact this
    have T3w := below_next T2w T3 rfl
    replace BP := BP.next T3
    have ho3 := own_next ho2 T3
    clear hw2 hw3 hsz3 R3 hx h ho2
    rw [hsz2] at HNM
    have hwl : w.heap.size < w1.heap.size := by have := hb1.size; omega
    go_wp2_with fail
    rw [HW2.out, HW3.out]
    refine HNM.out.mono ?_
    rintro e w4 ⟨A4, c4, ts, rfl, hoT, hRT, hb4⟩
    have T4 := below_next T3w hb4 rfl
    replace BP := BP.next hb4
    have ho4 := own_next ho3 hb4
    have R4 := raw_rd hoT
    have hlit : w1.heap.size < w3.heap.size := by have := T3.size; omega
    have HDT : Hid (∀ b ∈ obl (.slice A4 AL.length c4), w3.heap.size ≤ b) := fun b hb => (hoT.lt b (mem_obl.1 hb)).1
    obtain ⟨lc, hlc⟩ : ∃ l, w1.heap.size = l := ⟨_, rfl⟩
    have hlit4 : ∃ cur fr, w4.heap[lc]? = some (.cells cur 22 fr) := by rw [← hlc]; exact row_blk ho4 (mem_obl.2 rfl)
    have HLIT := Lib.hid hlit4
    rw [hlc] at ho4
    have HLC := Lib.hid hlc
    have HLC3 : Hid (lc < w3.heap.size ∧ lc ≠ w.heap.size ∧ w.heap.size ≤ lc) := ⟨by omega, by omega, by omega⟩
    clear hoT HNM hlit4 hlit ho3 hlc hwl
    go_wp2_with fail
    go_loopw [4, 6] (fun v i wr => ∃ (k : Nat) (A : Option Addr) (c : Nat) (vs : List Value), k ≤ AL.length ∧ i = .int .i64 k ∧ v = .slice A (ccL x (AL.take k)).length c ∧ OwMv 22 3 (.int .i64) w.heap.size wr (.slice A (ccL x (AL.take k)).length c) (ccL x (AL.take k)).length vs (ccL x (AL.take k)) ∧ ChgB [lc] w4 wr ∧ (∀ b ∈ obl (.slice A (ccL x (AL.take k)).length c), b = lc ∨ w4.heap.size ≤ b)) (fun _ i _ => AL.length - (intOf i).toNat)
    case atStart => exact ⟨0, some ⟨lc, 0, none⟩, 0, [], Nat.zero_le _, rfl, by rw [← HLC.out]; rfl, OwMv.empty _ _ ho4, ChgB.refl _ _, fun b hb => .inl (by simpa [obl, Value.ownBlock] using hb)⟩
    case round =>
      obtain ⟨k, A, c, vs, hk, rfl, rfl, hO, hC, hob⟩ := hrel
      have hul : (ccL x (AL.take k)).length ≤ 4096 := by
        have h1 := ccL_len x (AL.take k)
        have h2 : (AL.take k).length ≤ k := List.length_take_le _ _
        omega
      by_cases hlt : k < AL.length
      · have hk0 : (0 : Int) ≤ (k : Int) := by omega
        have hkl : (k : Int) < (AL.length : Int) := by omega
        obtain ⟨b2, o2, v2, t, hA4, hcp, hv2, -, htk⟩ := R4.at hlt
        subst hA4
        obtain ⟨Ap, mp, cp⟩ := t
        obtain rfl : v2 = .slice Ap mp cp := hv2
        have hb2 : b2 ≠ lc := fun e => by
          have h1 := HDT.out b2 (mem_obl.2 rfl)
          have h2 := HLC3.out.1
          omega
        have BPr : Blk wr w.heap.size 41 #[.int .i64 (n : Int), .slice B m d] := (hC.block _ BP.lt (by have := HLC3.out.2.1; simp; omega)).trans BP
        have hcr : wr.cell? ⟨b2, o2 + k, none⟩ = some (.slice Ap mp cp) := (World.cell?_of_block (w := w4) (w' := wr) (a := ⟨b2, o2 + k, none⟩) (hC.block b2 (cell_lt hcp) (by simpa using hb2))).trans hcp
        have hRr : Rws wr ts AL := hRT.same fun b cur fr hc => hC.block b (Array.getElem?_eq_some_iff.1 hc).1 (by
          obtain ⟨cur2, fr2, hc2⟩ := HLIT.out
          intro hb
          rw [List.mem_singleton] at hb
          subst hb
          rw [hc2] at hc
          injection hc with hc
          injection hc with _ h5
          exact absurd h5 (by decide))
        obtain ⟨p, hxp⟩ : ∃ p, AL[k]? = some p := ⟨_, List.getElem?_eq_getElem hlt⟩
        obtain ⟨rp, hpb⟩ := hRr.2 k _ p htk hxp
        replace rp : RdL RI wr Ap mp p := rp
        have hpm := HALL.out p (List.mem_of_getElem? hxp)
        obtain rfl : n = mp := by rw [← rp.len]; exact hpm.1.symm
        have hpmx : PermL x.1.toNat p := by rw [HNN.out]; exact hpm
        have HNX : Hid (ccL x (AL.take (k + 1)) = if 0 ≤ place (ccL x (AL.take k)) (codeL (ren x p).2) then ccL x (AL.take k) else ccL x (AL.take k) ++ [codeL (ren x p).2]) := by show _ = _; rw [take_snoc hxp, ccL_snoc]
        have hTw : Below w.heap.size w wr := ⟨hC.os.trans T4.os, hC.tape.trans T4.tape, hC.output.trans T4.output, Nat.le_trans T4.size hC.size, fun b hb => (hC.block b (by have := T4.size; omega) (by have := HLC3.out.2.2; simp; omega)).trans (T4.block b hb)⟩
        have hrr := shAlgebra.stab hrd hTw.block
        obtain ⟨L, HL⟩ : ∃ L, Hid (ccL x (AL.take k) = L) := ⟨_, rfl⟩
        obtain ⟨cd, HCD⟩ : ∃ cd, Hid (codeL (ren x p).2 = cd) := ⟨_, rfl⟩
        rw [HL.out] at hO hob hul HNX ⊢
        rw [HCD.out] at HNX
        have HC1 : ∀ wz, Below wr.heap.size wr wz → Calls Try.prog 89 #[.agg #[.int .i64 (n : Int), .slice B m d], .slice Ap n cp] wz (AlgE wz (ren x p)) := fun wz hz => by
          have := l2Rename_any [.int .i64 (n : Int), .slice B m d] x Ap n cp p wz (shAlgebra.stab hrr hz.block) (rp.next stab_RI hz) HX.out hpmx
          exact this
        have HC2 : ∀ wz v css bls, Below wr.heap.size wr wz → PO 0 wz v (ren x p).2 css bls → Calls Try.prog 72 #[.agg #[.int .i64 (ren x p).1, v]] wz (fun e w' => ∃ v', e = .returned v' ∧ CodeS wz cd v' w') := fun wz v css bls hz hp => by
          have := l31Code_any [.int .i64 (ren x p).1, v] (ren x p) wz (hp.alg (show InR x.1 from small_R HX.out)) (by have := small_ops (ren_small hpmx HX.out); show 0 + ((ren x p).2.length + cntS shOp.cnt (ren x p).2) ≤ _; omega)
          refine this.mono fun e w' ⟨A', c', h1, h2, h3⟩ => ⟨_, h1, A', c', ?_⟩
          rw [HCD.out] at h2
          exact ⟨by rw [HCD.out], h2, h3⟩
        have HCR : Hid (∀ y ∈ cd, InR y) := by show ∀ y ∈ cd, InR y; rw [← HCD.out]; exact code_R (ren_small hpmx HX.out)
        have Tk : Below wr.heap.size wr wr := Below.refl _ _
        have cP0 := BPr.cell 0
        have cP1 := BPr.cell 1
        simp at cP0 cP1
        clear hxp hpmx hcp
        go_upto_region 8 with fail
        go_cut [7] from 16 to 36 (fun v7 wx => ∃ wz, Below wr.heap.size wr wz ∧ CodeS wz cd v7 wx)
        case first =>
          go_region_held3 (fun w' => w'.cell? ⟨w.heap.size, 0, none⟩ = some (.int .i64 (n : Int)) ∧ w'.cell? ⟨w.heap.size, 1, none⟩ = some (.slice B m d) ∧ w'.cell? ⟨b2, o2 + k, none⟩ = some (.slice Ap n cp)) (first | go_keep | exact ⟨keepc Tk cP0, keepc Tk cP1, keepc Tk hcr⟩) (first
            | (go_at_call 89; (with_reducible refine (HC1 _ ?_).mono ?_); (first | exact Tk | exact Below.drew Tk); rintro e wn ⟨vv, css, bls, rfl, hPn, hbn⟩; replace Tk := below_next (by first | exact Tk | exact Below.drew Tk) hbn rfl)
            | (go_at_call 72; refine (HC2 _ _ _ _ (by first | exact Tk | exact Below.drew Tk) (by first | exact hPn.mono (Nat.zero_le _) | exact (hPn.mono (Nat.zero_le _)).next (Below.drew (Below.refl _ _)))).mono ?_; rintro e wm ⟨v', rfl, hcs⟩; obtain ⟨AK, cK, rfl, hoK, hbK⟩ := hcs; have TK0 := Tk; replace Tk := below_next (by first | exact Tk | exact Below.drew Tk) hbK rfl))
          all_goals
            have HK := Lib.hid (And.intro hoK hbK)
            clear hoK hbK
            go_wp2_with fail
            go_meet
            first
              | exact ⟨_, TK0, AK, cK, rfl, HK.out.1, HK.out.2⟩
              | exact ⟨_, Below.drew TK0, AK, cK, rfl, HK.out.1, HK.out.2⟩
        case rest =>
          obtain ⟨wz, hTz, AK, cK, rfl, hoK, hbK⟩ := hcut
          obtain ⟨w5, HWC⟩ : ∃ wq : World, wq = wc := ⟨_, rfl⟩
          subst HWC
          have T5 := below_next hTz hbK rfl
          have hu5 : w5.ownsRow wr.heap.size 3 1 (.slice AK cd.length cK) cd.length (ints cd) := own_mono hoK hTz.size
          have HLR : Hid (∀ q ∈ L, ∀ y ∈ q, RI w5 (.int .i64 y) y) := by
            show ∀ q ∈ L, ∀ y ∈ q, RI w5 (.int .i64 y) y
            intro q hq y hy
            rw [← HL.out] at hq
            obtain ⟨p', hp', e'⟩ := ((once_iff (fun p => codeL (ren x p).2) (AL.take k)).2 q).1 hq
            have e2 : codeL (ren x p').2 = q := e'
            have hpm' : PermL x.1.toNat p' := by rw [HNN.out]; exact HALL.out p' (List.mem_of_mem_take hp')
            rw [← e2] at hy
            exact ⟨rfl, code_R (ren_small hpm' HX.out) y hy⟩
          have RL5 := (hO.next T5).own.rd (R := RI) HLR.out
          have RC5 := rd_of_own (R := RI) hu5 (RI_ints HCR.out)
          have hlo : w.heap.size ≤ wr.heap.size := hTw.size
          have HC5 := Lib.hid hC
          have hob5 := Lib.hid hob
          have hlo5 : w.heap.size ≤ w5.heap.size := by have := T5.size; omega
          clear cP0 cP1 hcr Tk HC1 HC2 hob hoK hbK hTz hC
          by_cases hpl : 0 ≤ place L cd
          · have hpl' : ¬ place L cd < 0 := by omega
            have HN2 : Hid (ccL x (AL.take (k + 1)) = L) := by show _ = _; rw [HNX.out, if_pos hpl]
            go_wp2_with fail
            refine (bl_of_quiet (l12Place_any _ _ _ _ _ _ L cd _ RL5 RC5)).mono ?_
            rintro e w6 ⟨rfl, hb6⟩
            have T6 := below_next T5 hb6 rfl
            go_wp2_with fail
            go_roundw
            case rel => exact ⟨k + 1, A, c, vs, by omega, by go_num, by rw [HN2.out], by rw [HN2.out]; exact hO.next T6, HC5.out.trans (ChgB.ofBelow T6), by rw [HN2.out]; exact hob5.out⟩
            case measure => simp [intOf]; omega
          · have hpl' : place L cd < 0 := by omega
            have HN2 : Hid (ccL x (AL.take (k + 1)) = L ++ [cd]) := by show _ = _; rw [HNX.out, if_neg hpl]
            go_wp2_with fail
            refine (bl_of_quiet (l12Place_any _ _ _ _ _ _ L cd _ RL5 RC5)).mono ?_
            rintro e w6 ⟨rfl, hb6⟩
            have T6 := below_next T5 hb6 rfl
            have hlo6 : w.heap.size ≤ w6.heap.size := by have := T6.size; omega
            obtain ⟨hvs, HPU⟩ := hO.push T6 hlo (own_next hu5 hb6)
            clear hu5
            go_wp2_with (at_builtin; refine app1y w6 rfl _ _ rfl w.heap.size L.length c A vs rfl hvs (.slice AK cd.length cK) rfl rfl (by omega) hlo6 ?_; intro A8 c8 w8 hown8 hg8 hf8)
            go_roundw
            case rel => exact ⟨k + 1, A8, c8, vs ++ [.slice AK cd.length cK], by omega, by go_num, by rw [HN2.out, List.length_append]; rfl, by rw [HN2.out, List.length_append]; exact HPU hown8 hg8, (HC5.out.trans (ChgB.ofBelow T6)).trans2b (ChgB.grown hg8) hob5.out, fun b hb => by
              rw [HN2.out, List.length_append] at hb
              rcases hf8 b hb with h1 | h1
              · exact hob5.out b h1
              · exact .inr (Nat.le_trans (HC5.out.trans (ChgB.ofBelow T6)).size h1)⟩
            case measure => simp [intOf]; omega
      · obtain rfl : k = AL.length := by omega
        have hlt' : ¬ (AL.length : Int) < (AL.length : Int) := by omega
        have hTw : Below w.heap.size w wr := ⟨hC.os.trans T4.os, hC.tape.trans T4.tape, hC.output.trans T4.output, Nat.le_trans T4.size hC.size, fun b hb => (hC.block b (by have := T4.size; omega) (by have := HLC3.out.2.2; simp; omega)).trans (T4.block b hb)⟩
        have HM1 : Hid (ccM x = ((ccL x (AL.take AL.length)).length : Int)) := by show _ = _; rw [HM0.out, List.take_length]
        clear hO hob
        go_wp2_with fail
        go_ret2
        first
          | (rw [HM0.out]; exact ⟨rfl, hTw⟩)
          | (rw [HM1.out]; exact ⟨rfl, hTw⟩)
end Go.Proofs.Ytppnmpeicmlneaa
