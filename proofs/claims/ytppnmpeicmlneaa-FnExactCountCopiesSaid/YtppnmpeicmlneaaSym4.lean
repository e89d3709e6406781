
/- Walks: SymmetriesOf (the reference's). -/
import Derived.Test.YtppnmpeicmlneaaSym3
namespace Go.Proofs.Ytppnmpeicmlneaa
open Go.RowKit

theorem app1y (w0 : World) {ops : Array Oper} {rest : List Oper} {o : Oper} {a : Act} {Q : Exit → Act → World → Prop} (hgd : o.guard = none) (s x : Operand)
    (ho : o.op = .call { callee := .builtin .append, args := #[s, x], argTypes := #[70, 70] })
    (base n c : Nat) (A : Option Addr) (xs : List Value) (hs : a.eval s = .slice A n c) (hown : w0.ownsRow base 22 1 (.slice A n c) n xs) (u : Value) (hu : u.oneCell' = true) (hx : a.eval x = .slice (some ⟨w0.heap.size, 0, none⟩) 1 1)
    (hn : n ≤ 1048576) (hbase : base ≤ w0.heap.size)
    (hK : ∀ A' c' w', w'.ownsRow base 22 1 (.slice A' (n + 1) c') (n + 1) (xs ++ [u]) → w0.grownBy w' (Value.slice A n c).ownBlock → (∀ b ∈ obl (.slice A' (n + 1) c'), b ∈ obl (.slice A n c) ∨ w0.heap.size ≤ b) → wpList Try.prog ops Q rest (a.put o.dst (.slice A' (n + 1) c')) w') :
    wpList Try.prog ops Q (o :: rest) a (w0.alloc (.cells #[u] 22)) :=
  wpList_plain hgd fun K hK' => by
    have hw : Region.wanted o (yielded ops a.tmps) = true := by simp [Region.wanted, hgd]
    have := step_app1y (K := K) (Q := Q) (E := True) (ops := ops) w0 hgd s x ho base n c A xs hs hown u hu hx hn hbase fun A' c' w' h1 h2 h3 => hK' _ _ (hK A' c' w' h1 h2 h3)
    rwa [if_pos hw] at this

theorem ChgB.trans2b {l : List Nat} {g : Nat} {a b c : World} (h : ChgB [g] a b) (k : ChgB l b c) (hl : ∀ q ∈ l, q = g ∨ a.heap.size ≤ q) : ChgB [g] a c :=
  ⟨k.os.trans h.os, k.tape.trans h.tape, k.output.trans h.output, Nat.le_trans h.size k.size, fun i hi hn => (k.block i (Nat.lt_of_lt_of_le hi h.size) fun hh => by
    rcases hl i hh with h1 | h1
    · exact hn (by simpa using h1)
    · omega).trans (h.block i hi hn)⟩
set_option maxRecDepth 20000 in
set_option maxHeartbeats 8000000 in
theorem specSO_any (cs : List Value) (x : AlgebraM) (w : World) (h : shAlgebra.rd w cs x) :
    Calls Try.prog 47 #[.agg cs.toArray] w (RdSB w (soM x) (smallB x)) := by
  have hrd := h
  obtain ⟨B, m, d, rfl, qs, qo⟩ := rdAlgebra h
  obtain ⟨w0, hw0, T0, hsz0, BP⟩ := boxes1 w #[.int .i64 x.1, .slice B m d] 41
  have HW0 : Hid (_ = w0) := hw0.symm
  have hz0 : w0.heap.size = w.heap.size + 1 := hsz0
  obtain ⟨w1, hw1, T1, hsz1, BO⟩ := boxes1 w0 #[] 22
  have HW1 : Hid (_ = w1) := hw1.symm
  have ho1 : w1.ownsRow w.heap.size 22 1 (.slice (some ⟨w.heap.size + 1, 0, none⟩) 0 0) 0 [] := by
    rw [hw1]
    have := World.ownsRow_lit (e := 22) (size := 1) w0 #[] 0 (show w.heap.size ≤ _ by omega) (Nat.zero_le _) rfl
    rw [hz0] at this
    exact this
  have T1w := below_next T0 T1 rfl
  have cP0 := BP.cell 0
  have cP1 := BP.cell 1
  simp at cP0 cP1
  replace BP := BP.next T1
  have cQ0 := BP.cell 0
  have cQ1 := BP.cell 1
  simp at cQ0 cQ1
  obtain ⟨r, hr⟩ : ∃ r, smallB x = r := ⟨_, rfl⟩
  have HM : Hid (soM x = if r then symL x (ords x.1.toNat x.1.toNat []) else []) := by show _ = _; unfold soM; rw [hr]
  have HS := Lib.hid hr
  rw [hr]
  clear hr hw0 hw1 hsz0
  go_enter Try.func47, Try.ntmps47
  go_wp2_with fail
  rw [HW0.out, HW1.out]
  refine (l31Takes_any _ x _ (shAlgebra.stab hrd T1w.block)).mono ?_
  rintro e w2 ⟨rfl, hb2⟩
  rw [HS.out]
  have T2 := below_next T1w hb2 rfl
  have ho2 := own_next ho1 hb2
  replace BP := BP.next hb2
  clear cP0 cP1 cQ0 cQ1
  have cP0 := BP.cell 0
  have cP1 := BP.cell 1
  simp at cP0 cP1
  rcases r with _ | _
  · have HM0 : Hid (soM x = []) := by show _ = _; rw [HM.out]; rfl
    go_wp2_with fail
    go_ret2
    rw [HM0.out]
    exact ⟨_, _, rfl, RdL.nil _ _ _, T2⟩
  · have hx := small_iff.1 HS.out
    have HX := Lib.hid hx
    obtain ⟨n, hn⟩ : ∃ n : Nat, x.1 = (n : Int) := ⟨x.1.toNat, by have h1 := hx.1; omega⟩
    have hn5 : n ≤ 5 := by have h1 := hx.2.1; omega
    have HNN : Hid (x.1.toNat = n) := by show _ = _; omega
    obtain ⟨AL, HAL⟩ : ∃ AL, Hid (ords n n [] = AL) := ⟨_, rfl⟩
    have HM0 : Hid (soM x = symL x AL) := by show _ = _; rw [HM.out, HNN.out, HAL.out]; rfl
    have HALL : Hid (∀ p ∈ AL, PermL n p) := by have := all_perm (x := x); rw [HNN.out, HAL.out] at this; exact this
    have hALlen : AL.length ≤ 3125 := by rw [← HAL.out]; exact Nat.le_trans (ords_len n []) (pow5 hn5 hn5)
    rw [hn] at hrd cP0 qs BP
    obtain ⟨w3, hw3, T3, hsz3, -⟩ := boxes1 w2 #[] 3
    have HW3 : Hid (_ = w3) := hw3.symm
    have R3 : RdL RI w3 (some ⟨w2.heap.size, 0, none⟩) 0 [] := RdL.nil _ _ _
    have HNM : Hid (Calls Try.prog 88 #[.int .i64 n, .slice (some ⟨w2.heap.size, 0, none⟩) 0 0] w3 (NmE w3 AL)) := by
      have := l31Names_any n hn5 n _ 0 0 [] w3 R3 (Nat.zero_add _)
      rw [HAL.out] at this
      exact this
    have T3w := below_next T2 T3 rfl
    replace BP := BP.next T3
    have ho3 := own_next ho2 T3
    clear hw3 hsz3 R3 hx h ho1 ho2
    go_wp2_with fail
    rw [HW3.out]
    refine HNM.out.mono ?_
    rintro e w4 ⟨A4, c4, ts, rfl, hoT, hRT, hb4⟩
    have T4 := below_next T3w hb4 rfl
    replace BP := BP.next hb4
    have ho4 := own_next ho3 hb4
    have R4 := raw_rd hoT
    have hlit : w.heap.size + 1 < w3.heap.size := by have := T3.size; have := hb2.size; have := T1.size; omega
    have HDT : Hid (∀ b ∈ obl (.slice A4 AL.length c4), w3.heap.size ≤ b) := fun b hb => (hoT.lt b (mem_obl.1 hb)).1
    obtain ⟨lc, hlc⟩ : ∃ l, w.heap.size + 1 = l := ⟨_, rfl⟩
    have hlit4 : ∃ cur fr, w4.heap[lc]? = some (.cells cur 22 fr) := by rw [← hlc]; exact row_blk ho4 (mem_obl.2 rfl)
    have HLIT := Lib.hid hlit4
    rw [hlc] at ho4
    have HLC := Lib.hid hlc
    have HLC3 : Hid (lc < w3.heap.size ∧ lc ≠ w.heap.size ∧ w.heap.size ≤ lc) := ⟨by omega, by omega, by omega⟩
    clear hoT HNM hlit4 hlit ho3 hlc
    go_wp2_with fail
    go_loopw [4, 6] (fun v i wr => ∃ (k : Nat) (A : Option Addr) (c : Nat) (us : List SlT), k ≤ AL.length ∧ i = .int .i64 k ∧ v = .slice A us.length c ∧ wr.ownsRow w.heap.size 22 1 (.slice A us.length c) us.length (us.map slV) ∧ Rws wr us (symL x (AL.take k)) ∧ ChgB [lc] w4 wr ∧ (∀ b ∈ obl (.slice A us.length c), b = lc ∨ w4.heap.size ≤ b)) (fun _ i _ => AL.length - (intOf i).toNat)
    case atStart => exact ⟨0, some ⟨lc, 0, none⟩, 0, [], Nat.zero_le _, rfl, by rw [← HLC.out]; rfl, ho4, Rws.nil _, ChgB.refl _ _, fun b hb => .inl (by simpa [obl, Value.ownBlock] using hb)⟩
    case round =>
      obtain ⟨k, A, c, us, hk, rfl, rfl, ho, hR, hC, hob⟩ := hrel
      by_cases hlt : k < AL.length
      · have hk0 : (0 : Int) ≤ (k : Int) := by omega
        have hkl : (k : Int) < (AL.length : Int) := by omega
        obtain ⟨b2, o2, v2, t, hA4, hcp, hv2, -, htk⟩ := R4.at hlt
        subst hA4
        obtain ⟨Ap, mp, cp⟩ := t
        obtain rfl : v2 = .slice Ap mp cp := hv2
        have hb2 : b2 ≠ lc := fun e => by
          have h1 := HDT.out b2 (mem_obl.2 rfl)
          have h2 := HLC3.out.1
          omega
        have BPr : Blk wr w.heap.size 41 #[.int .i64 (n : Int), .slice B m d] := (hC.block _ BP.lt (by have := HLC3.out.2.1; simp; omega)).trans BP
        have hcr : wr.cell? ⟨b2, o2 + k, none⟩ = some (.slice Ap mp cp) := (World.cell?_of_block (w := w4) (w' := wr) (a := ⟨b2, o2 + k, none⟩) (hC.block b2 (cell_lt hcp) (by simpa using hb2))).trans hcp
        have hRr : Rws wr ts AL := hRT.same fun b cur fr hc => hC.block b (Array.getElem?_eq_some_iff.1 hc).1 (by
          obtain ⟨cur2, fr2, hc2⟩ := HLIT.out
          intro hb
          rw [List.mem_singleton] at hb
          subst hb
          rw [hc2] at hc
          injection hc with hc
          injection hc with _ h5
          exact absurd h5 (by decide))
        obtain ⟨p, hxp⟩ : ∃ p, AL[k]? = some p := ⟨_, List.getElem?_eq_getElem hlt⟩
        obtain ⟨rp, hpb⟩ := hRr.2 k _ p htk hxp
        replace rp : RdL RI wr Ap mp p := rp
        have hpm := HALL.out p (List.mem_of_getElem? hxp)
        obtain rfl : n = mp := by rw [← rp.len]; exact hpm.1.symm
        have hpmx : PermL x.1.toNat p := by rw [HNN.out]; exact hpm
        have HNX : Hid (symL x (AL.take (k + 1)) = if symF x p then symL x (AL.take k) ++ [p] else symL x (AL.take k)) := by show _ = _; rw [take_snoc hxp, symL_snoc]
        have hTw : Below w.heap.size w wr := ⟨hC.os.trans T4.os, hC.tape.trans T4.tape, hC.output.trans T4.output, Nat.le_trans T4.size hC.size, fun b hb => (hC.block b (by have := T4.size; omega) (by have := HLC3.out.2.2; simp; omega)).trans (T4.block b hb)⟩
        have hrr := shAlgebra.stab hrd hTw.block
        have hsm2 : ∀ {q : List Int}, (AL.take k).length = k := by intro q; rw [List.length_take]; omega
        have hul : us.length ≤ 4096 := by
          rw [hR.1]
          have h1 := List.length_filter_le (symF x) (AL.take k)
          have h2 : (AL.take k).length = k := by rw [List.length_take]; omega
          show (List.filter (symF x) (AL.take k)).length ≤ 4096
          omega
        obtain ⟨sv, HSV⟩ : ∃ b, Hid (symF x p = b) := ⟨_, rfl⟩
        rw [HSV.out] at HNX
        have HC1 : ∀ wz, Below wr.heap.size wr wz → Calls Try.prog 89 #[.agg #[.int .i64 (n : Int), .slice B m d], .slice Ap n cp] wz (AlgE wz (ren x p)) := fun wz hz => by
          have := l2Rename_any [.int .i64 (n : Int), .slice B m d] x Ap n cp p wz (shAlgebra.stab hrr hz.block) (rp.next stab_RI hz) HX.out hpmx
          exact this
        have HC2 : ∀ wz v css bls, Below wr.heap.size wr wz → PO 0 wz v (ren x p).2 css bls → Calls Try.prog 80 #[.agg #[.int .i64 (ren x p).1, v], .agg #[.int .i64 (n : Int), .slice B m d]] wz (Bl wz (.bool sv)) := fun wz v css bls hz hp => by
          have := l31Same_any [.int .i64 (ren x p).1, v] [.int .i64 (n : Int), .slice B m d] (ren x p) x wz (hp.alg (show InR x.1 from small_R HX.out)) (shAlgebra.stab hrr hz.block) (ren_small hpmx HX.out) HX.out
          rw [show eqC (ren x p) x = sv from HSV.out] at this
          exact this
        have Tk : Below wr.heap.size wr wr := Below.refl _ _
        have cP0 := BPr.cell 0
        have cP1 := BPr.cell 1
        simp at cP0 cP1
        clear hxp hpmx hsm2 hcp
        go_upto_region 8 with fail
        go_cut [29] from 16 to 36 (fun v29 wx => v29 = .bool sv ∧ Below wr.heap.size wr wx)
        case first =>
          go_region_held3 (fun w' => w'.cell? ⟨w.heap.size, 0, none⟩ = some (.int .i64 (n : Int)) ∧ w'.cell? ⟨w.heap.size, 1, none⟩ = some (.slice B m d) ∧ w'.cell? ⟨b2, o2 + k, none⟩ = some (.slice Ap n cp)) (first | go_keep | exact ⟨keepc Tk cP0, keepc Tk cP1, keepc Tk hcr⟩) (first
            | (go_at_call 89; (with_reducible refine (HC1 _ ?_).mono ?_); (first | exact Tk | exact Below.drew Tk); rintro e wn ⟨vv, css, bls, rfl, hPn, hbn⟩; replace Tk := below_next (by first | exact Tk | exact Below.drew Tk) hbn rfl)
            | (go_at_call 80; refine (HC2 _ _ _ _ (by first | exact Tk | exact Below.drew Tk) (by first | exact hPn.mono (Nat.zero_le _) | exact (hPn.mono (Nat.zero_le _)).next (Below.drew (Below.refl _ _)))).mono ?_; rintro e wm ⟨rfl, hbm⟩; replace Tk := below_next (by first | exact Tk | exact Below.drew Tk) hbm rfl))
          all_goals
            go_wp2_with fail
            go_meet
            exact ⟨rfl, by first | exact Tk | exact Below.drew Tk⟩
        case rest =>
          obtain ⟨rfl, hTc⟩ := hcut
          obtain ⟨w5, HWC⟩ : ∃ wq : World, wq = wc := ⟨_, rfl⟩
          subst HWC
          have ho5 := own_next ho hTc
          have hR5 := hR.next hTc
          have hC5 : ChgB [lc] w4 w5 := hC.trans (ChgB.ofBelow hTc)
          have hcr5 := keepc hTc hcr
          have hob5 := Lib.hid hob
          clear cP0 cP1 hcr Tk HC1 HC2 hob
          rcases sv with _ | _
          · go_wp2_with fail
            go_roundw
            case rel => exact ⟨k + 1, A, c, us, by omega, by go_num, rfl, own_same ho5 (fun _ _ => rfl), by rw [HNX.out]; exact hR5, hC5, hob5.out⟩
            case measure => simp [intOf]; omega
          · have hlo5 : w.heap.size ≤ w5.heap.size := by have := hTw.size; have := hTc.size; omega
            go_wp2_with (at_builtin; refine app1y w5 rfl _ _ rfl w.heap.size us.length c A (us.map slV) rfl ho5 (.slice Ap n cp) rfl rfl (by omega) hlo5 ?_; intro A8 c8 w8 hown8 hg8 hf8)
            have hR8 : Rws w8 (us ++ [(Ap, n, cp)]) (symL x (AL.take k) ++ [p]) := by
              refine Rws.grown (hR5.app ?_) ho5 (by decide) hg8
              refine ⟨rfl, fun j t xs h1 h2 => ?_⟩
              match j, h1, h2 with
              | 0, h1, h2 =>
                simp at h1 h2
                subst h1
                subst h2
                exact ⟨rp.next stab_RI hTc, fun q e => by
                  obtain ⟨cur, fr, hc⟩ := hpb q e
                  exact ⟨cur, fr, (hTc.block _ (Array.getElem?_eq_some_iff.1 hc).1).trans hc⟩⟩
              | j + 1, h1, h2 => simp at h1
            go_roundw
            case rel => exact ⟨k + 1, A8, c8, us ++ [(Ap, n, cp)], by omega, by go_num, by rw [List.length_append]; rfl, by rw [List.length_append, List.map_append]; exact hown8, by rw [HNX.out]; exact hR8, hC5.trans2b (ChgB.grown hg8) hob5.out, fun b hb => by
              rw [List.length_append] at hb
              rcases hf8 b hb with h1 | h1
              · exact hob5.out b h1
              · exact .inr (Nat.le_trans hC5.size h1)⟩
            case measure => simp [intOf]; omega
      · obtain rfl : k = AL.length := by omega
        have hlt' : ¬ (AL.length : Int) < (AL.length : Int) := by omega
        have hRR := rws_rd ho hR
        rw [List.take_of_length_le (Nat.le_refl _)] at hRR hR
        have hul : us.length = (symL x AL).length := hR.1
        have hTw : Below w.heap.size w wr := ⟨hC.os.trans T4.os, hC.tape.trans T4.tape, hC.output.trans T4.output, Nat.le_trans T4.size hC.size, fun b hb => (hC.block b (by have := T4.size; omega) (by have := HLC3.out.2.2; simp; omega)).trans (T4.block b hb)⟩
        rw [hul] at hRR
        have HUL := Lib.hid hul
        clear hul hR ho hob
        go_wp2_with fail
        go_ret2
        rw [HM0.out, HUL.out]
        exact ⟨_, _, rfl, hRR, hTw⟩
end Go.Proofs.Ytppnmpeicmlneaa
