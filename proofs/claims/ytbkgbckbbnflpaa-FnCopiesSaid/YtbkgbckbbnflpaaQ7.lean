import Derived.Test.YtbkgbckbbnflpaaQ6
set_option linter.unusedVariables false
set_option linter.unusedSimpArgs false
set_option maxRecDepth 100000
set_option maxHeartbeats 32000000
namespace Go.Proofs.Ytbkgbckbbnflpaa
open Go.RowKit
theorem alg31H (B g t : Nat) (w : World) (h : CurB B w g t) (hB : B ≤ w.heap.size) (ht : t ≤ 999890000) : Calls Try.prog 23 #[.pointer (some ⟨g, 0, none⟩)] w (AlgD B w g (t + 2100)) := algebra31_of (fun B g t w h hB ht => algebra_any B g t w h hB ht) B g t w h hB ht
theorem Blk.farH {w : World} {g : Nat} {t : TypeId} {cs : Array Value} (h : Blk w g t cs) {p : Addr} (hp : p.block ≠ g) (v : Value) : Blk (w.setCell p v) g t cs := (Below.heap_setCell w p v g (fun e => hp e.symm)).trans h
theorem cell_far2H {w : World} {r gx i : Nat} {u v : Value} (h : r ≠ gx) : ((w.setCell ⟨r, 0, none⟩ u).setCell ⟨r, 1, none⟩ v).cell? ⟨gx, i, none⟩ = w.cell? ⟨gx, i, none⟩ :=
  World.cell?_of_block ((Below.heap_setCell _ _ _ _ (fun e => h e.symm)).trans (Below.heap_setCell _ _ _ _ (fun e => h e.symm)))
theorem res_row_rowH {P : Program} {fn : Func} {p q : Tmp} {ty uy : TypeId} (h : fn.results = #[.cell p ty, .cell q uy]) (tmps : Array Value) (w : World) (g k : Nat) (t u : TypeId) (cs es : Array Value) (fr gr : Nat × Nat) (d e : TypeDesc)
    (hp : tmps.getD p undef = .pointer (some ⟨g, 0, none⟩)) (hq : tmps.getD q undef = .pointer (some ⟨k, 0, none⟩)) (hg : w.heap[g]? = some (.cells cs t fr)) (hk : w.heap[k]? = some (.cells es u gr))
    (hu : P.underlying ty = some d) (hv : P.underlying uy = some e) (hd : (match d with | .struct _ | .array _ _ => true | _ => false) = true) (he : (match e with | .struct _ | .array _ _ => true | _ => false) = true) (hi : (P.info? ty).map (·.size) = some cs.size) (hj : (P.info? uy).map (·.size) = some es.size) :
    (results fn tmps).run P w = .ok (.tuple #[.agg cs, .agg es]) w := by
  have : (results fn tmps).run P w = ((asAddr (tmps.getD p undef)).run P w).andThen fun a w₁ => ((loadVar ty a).run P w₁).andThen fun v w₂ => ((asAddr (tmps.getD q undef)).run P w₂).andThen fun b w₃ => ((loadVar uy b).run P w₃).andThen fun v' w₄ => .ok (.tuple #[v, v']) w₄ := by
    simp only [results, h]
    simp [Sem.run_bind, Result.andThen]
  rw [this, hp, hq]
  simp [asAddr, Result.andThen, run_loadVar_row w g t ty cs fr d hg hu hd hi, run_loadVar_row w k u uy es gr e hk hv he hj]
/-- Two drawn algebras. -/
def HfD (w : World) (e : Ending) (w' : World) : Prop := ∃ ds x es y, e = .returned (.tuple #[.agg (List.toArray ds), .agg (List.toArray es)]) ∧ shAlgebra.rd w' ds x ∧ shAlgebra.rd w' es y ∧ Below w.heap.size w w'
theorem drawHF_any (A : Option Addr) (n c : Nat) (w : World) (h : CodeB w A n) : Calls Try.prog 5 #[.slice A n c] w (HfD w) := by
  obtain ⟨w0, hw0, T0, hs0, Br, Bq⟩ := boxes2 w #[.int .i64 0, .slice none 0 0] #[.int .i64 0, .slice none 0 0] 26 26
  have HW0 := Lib.hid hw0
  obtain ⟨w1, HW1⟩ : ∃ wb, Hid (wb = w0.alloc (.cells #[.slice A n c, .int .i64 0, .int .u64 0] 48)) := ⟨_, Lib.hid rfl⟩
  have hb1 : Below w0.heap.size w0 w1 := by rw [HW1.out]; exact below_box _ _
  have hcu : CurB (w.heap.size + 1 + 1) w1 (w.heap.size + 1 + 1) 0 := by rw [HW1.out]; exact CurB.made (h.next T0) hs0.symm
  replace Br := Br.next hb1
  replace Bq := Bq.next hb1
  have HT1 := Lib.hid (below_next T0 hb1 rfl)
  have hz1 : w.heap.size + 1 + 1 < w1.heap.size := hcu.lt
  have hgr := grown_reflB w1 (some (w.heap.size + 1 + 1))
  obtain ⟨g, HG⟩ : ∃ x, Hid (w.heap.size + 1 + 1 = x) := ⟨_, Lib.hid rfl⟩
  obtain ⟨q, HQ⟩ : ∃ x, Hid (w.heap.size + 1 = x) := ⟨_, Lib.hid rfl⟩
  obtain ⟨r, HR⟩ : ∃ x, Hid (w.heap.size = x) := ⟨_, Lib.hid rfl⟩
  have hrg : w.heap.size ≤ r ∧ r + 1 = q ∧ q + 1 = g := by have := HG.out; have := HR.out; have := HQ.out; omega
  obtain ⟨hwr, hrq, hqg⟩ := hrg
  obtain ⟨B, HB⟩ : ∃ x, Hid (g = x) := ⟨_, Lib.hid rfl⟩
  rw [HG.out] at hcu hgr hz1
  have hcu : CurB B w1 g 0 := by have h1 := hcu; rw [← HB.out]; exact h1
  have hBg : B = g := HB.out.symm
  rw [HR.out] at Br
  rw [HQ.out] at Bq
  have HAL := Lib.hid (alg31H B g 0 w1 hcu (by omega) (by omega))
  clear hcu hw0 h T0 hb1 hs0
  go_enter Try.func5, Try.ntmps5
  go_wp2_with fail
  rw [← HW0.out, ← HW1.out, HG.out, HQ.out, HR.out]
  refine HAL.out.mono ?_
  rintro e w3 ⟨ds, x, bl, rfl, O5, I5, hAQ, hcu, hg3⟩
  obtain ⟨AX, mX, cX, hds, -, -⟩ := rdAlgebra (shAlgebra.ord O5)
  subst hds
  obtain ⟨z, ops⟩ := x
  obtain ⟨nN, rfl⟩ : ∃ n : Nat, z = (n : Int) := ⟨z.toNat, by have h1 : 0 ≤ z := hAQ.1.1; omega⟩
  have hn9 : nN ≤ 9 := by have h1 : (nN : Int) ≤ 9 := hAQ.1.2.1; omega
  replace Br := Br.grownG hg3 (by omega)
  replace Bq := Bq.grownG hg3 (by omega)
  replace hgr := growB_trans hgr hg3
  have hz3 := hg3.size
  obtain ⟨w4, HW4⟩ : ∃ wb, Hid (wb = w3.alloc (.cells #[.int .i64 (nN : Int), .slice AX mX cX] 26)) := ⟨_, Lib.hid rfl⟩
  have hb4 : Below w3.heap.size w3 w4 := by rw [HW4.out]; exact below_box _ _
  have BX : Blk w4 w3.heap.size 26 #[.int .i64 (nN : Int), .slice AX mX cX] := by rw [HW4.out]; exact Blk.new _ _ _
  obtain ⟨gx, HGX⟩ : ∃ x, Hid (w3.heap.size = x) := ⟨_, Lib.hid rfl⟩
  have hz4 := hb4.size
  clear HAL hg3
  go_upto_region 3 with fail
  rw [← HW4.out]
  rw [HGX.out] at BX ⊢
  replace O5 := Sh.onext O5 hb4
  replace Br := Br.next hb4
  replace Bq := Bq.next hb4
  replace hgr := growB_trans hgr (toGr (r := some g) hb4)
  replace hcu := hcu.next_ hb4
  have hgxz : w1.heap.size ≤ gx := by have := HGX.out; omega
  have hrx : r ≠ gx := by omega
  have hqx : q ≠ gx := by omega
  have hz34 : w1.heap.size ≤ w4.heap.size := by omega
  have cX0 := BX.cell 0
  have cX1 := BX.cell 1
  simp at cX0 cX1
  have HNA := Lib.hid (names2_any B g (0 + 2100) nN w4 hcu (by omega) (by omega) (by omega))
  clear hb4 hcu
  go_wp2_with fail
  refine HNA.out.mono ?_
  rintro e w5 ⟨N, p, cN, L, rfl, hown, hL, hp, hcu, hg5⟩
  replace hcu := hcu.mono (show 0 + 2100 + 2 * nN + 10 ≤ 4000 by omega)
  have hz5 := hg5.size
  replace O5 := Sh.ogrown O5 hg5 I5 (by omega)
  replace Br := Br.grownG hg5 (by omega)
  replace Bq := Bq.grownG hg5 (by omega)
  replace BX := BX.grownG hg5 (by omega)
  replace hgr := growB_trans hgr hg5
  clear cX0 cX1
  have cX0 := BX.cell 0
  have cX1 := BX.cell 1
  simp at cX0 cX1
  have HLR : Hid (∀ wz : World, ∀ v ∈ L, RI wz (.int .i64 v) v) := fun wz => RI_ints fun v hv => by have := hL v hv; constructor <;> omega
  have HGO := Lib.hid (l2Good_any [.int .i64 (nN : Int), .slice AX mX cX] ((nN : Int), ops) w5 (shAlgebra.ord O5))
  clear HNA hg5 hL
  go_upto_region 4 with fail
  go_wp2_with fail
  refine HGO.out.mono ?_
  rintro e w6 ⟨rfl, hb6⟩
  have hz6 := hb6.size
  replace O5 := Sh.onext O5 hb6
  replace Br := Br.next hb6
  replace Bq := Bq.next hb6
  replace BX := BX.next hb6
  replace hgr := growB_trans hgr (toGr (r := some g) hb6)
  replace hcu := hcu.next_ hb6
  clear cX0 cX1
  have cX0 := BX.cell 0
  have cX1 := BX.cell 1
  simp at cX0 cX1
  replace hown := own_next hown hb6
  rcases hab : algB ((nN : Int), ops) with _ | _
  · clear hown HGO
    replace hcu := hcu.mono (show 4000 ≤ 5000 by omega)
    go_upto_region 6 with fail
    refine wp_region_held_drew (S := fun w' => w'.cell? ⟨gx, 0, none⟩ = some (.int .i64 (nN : Int)) ∧ w'.cell? ⟨gx, 1, none⟩ = some (.slice AX mX cX)) (by kernel_rfl) ⟨cX0, cX1⟩ (fun hHeld0 => ?_)
    obtain ⟨wt1, Hwt1⟩ : ∃ x, Hid (x = World.drew w6) := ⟨_, rfl⟩
    have hbwt1 : Below w6.heap.size w6 wt1 := by rw [Hwt1.out]; exact (Below.refl _ _).drew
    rw [← Hwt1.out] at hHeld0 ⊢
    have ywt1 := hbwt1.size
    replace O5 := Sh.onext O5 hbwt1
    replace Br := Br.next hbwt1
    replace Bq := Bq.next hbwt1
    replace BX := BX.next hbwt1
    replace hgr := growB_trans hgr (toGr hbwt1)
    replace hcu := hcu.next_ hbwt1
    replace cX0 := keepc hbwt1 cX0
    replace cX1 := keepc hbwt1 cX1
    refine tk 0 (.agg #[.int .i64 (nN : Int), .slice AX mX cX]) rfl (.inl ⟨by kernel_rfl, fun wv hSw => by (obtain ⟨hS0, hS1⟩ := hSw); go_simp⟩) ?_
    refine tp 1 (.pointer (some ⟨g, 0, none⟩)) rfl ?_
    (try simp only [Act.put, zA, zB, zC, zD, zE, zF])
    refine r1 2 rfl (fun K hK => ?_)
    go_simp
    go_at_call 23
    refine (alg31H B g 5000 wt1 hcu (by omega) (by omega)).mono ?_
    rintro e wt2 ⟨es, y, bl2, rfl, O6, I6, -, -, hgs⟩
    obtain ⟨AY, mY, cY, hes, -, -⟩ := rdAlgebra (shAlgebra.ord O6)
    subst hes
    have hzs := hgs.size
    have hI6 : ∀ b ∈ bl2, wt1.heap.size ≤ b := fun b hb => (I6.2 b hb).1
    replace O5 := Sh.ogrown O5 hgs I5 (by omega)
    replace Br := Br.grownG hgs (by omega)
    replace Bq := Bq.grownG hgs (by omega)
    replace BX := BX.grownG hgs (by omega)
    replace hgr := growB_trans hgr hgs
    replace cX0 := BX.cell 0
    replace cX1 := BX.cell 1
    simp at cX0 cX1
    clear hcu I6
    go_wp2_with fail
    refine hK.out _ _ ⟨cX0, cX1⟩ (fun hHeld1 => ?_)
    clear hK K hHeld0
    (try simp only [Act.put, zA, zB, zC, zD, zE, zF])
    (try simp only [Act.put, zA, zB, zC, zD, zE, zF])
    refine r1 3 rfl (fun K hK => ?_)
    have fR0 := Br.frozen 0
    have fR1 := Br.frozen 1
    have cR0 := Br.cell 0
    have cR1 := Br.cell 1
    simp at cR0 cR1
    go_simp
    obtain ⟨wt3, Hwt3⟩ : ∃ z, Hid (z = (wt2.setCell ⟨r, 0, none⟩ (.int .i64 (nN : Int))).setCell ⟨r, 1, none⟩ (.slice AX mX cX)) := ⟨_, Lib.hid rfl⟩
    rw [← Hwt3.out]
    have hrn : r ∉ bl := fun hh => by have := (I5.2 _ hh).1; omega
    have hrm : ∀ q ∈ _, _ := hI6
    have hrn6 : r ∉ _ := fun hh => by have := hI6 _ hh; omega
    replace Br : Blk wt3 r 26 #[.int .i64 (nN : Int), .slice AX mX cX] := by rw [Hwt3.out]; simpa using (Br.set_ 0 (.int .i64 (nN : Int))).set_ 1 (.slice AX mX cX)
    replace Bq : Blk wt3 q 26 #[.int .i64 0, .slice none 0 0] := by rw [Hwt3.out]; exact (Bq.farH (show r ≠ q by omega) _).farH (show r ≠ q by omega) _
    replace O5 : shAlgebra.own wt3 [.int .i64 (nN : Int), .slice AX mX cX] ((nN : Int), ops) bl := by rw [Hwt3.out]; exact Sh.oset' (p := ⟨r, 1, none⟩) (Sh.oset' (p := ⟨r, 0, none⟩) O5 hrn _) hrn _
    have O6 := Sh.oset' (p := ⟨r, 1, none⟩) (Sh.oset' (p := ⟨r, 0, none⟩) O6 hrn6 (.int .i64 (nN : Int))) hrn6 (.slice AX mX cX)
    rw [← Hwt3.out] at O6
    have hzwt3 : wt3.heap.size = wt2.heap.size := by rw [Hwt3.out]; simp
    have HT6 : Below w.heap.size w wt3 := by rw [Hwt3.out]; exact ((HT1.out.grown hgr (by omega) (fun k e => by injection e with e; omega)).setCell (p := ⟨r, 0, none⟩) (by show w.heap.size ≤ r; omega) _).setCell (p := ⟨r, 1, none⟩) (by show w.heap.size ≤ r; omega) _
    replace cX0 : wt3.cell? ⟨gx, 0, none⟩ = some (.int .i64 (nN : Int)) := by rw [Hwt3.out]; rw [cell_far2H hrx]; exact cX0
    replace cX1 : wt3.cell? ⟨gx, 1, none⟩ = some (.slice AX mX cX) := by rw [Hwt3.out]; rw [cell_far2H hrx]; exact cX1
    clear fR0 fR1 cR0 cR1 hrn hrn6 hrm
    refine hK.out _ _ ⟨cX0, cX1⟩ (fun hHeld2 => ?_)
    clear hK K hHeld1
    (try simp only [Act.put, zA, zB, zC, zD, zE, zF])
    (try simp only [Act.put, zA, zB, zC, zD, zE, zF])
    refine r1 4 rfl (fun K hK => ?_)
    have fR0 := Bq.frozen 0
    have fR1 := Bq.frozen 1
    have cR0 := Bq.cell 0
    have cR1 := Bq.cell 1
    simp at cR0 cR1
    go_simp
    obtain ⟨wt4, Hwt4⟩ : ∃ z, Hid (z = (wt3.setCell ⟨q, 0, none⟩ (.int .i64 y.1)).setCell ⟨q, 1, none⟩ (.slice AY mY cY)) := ⟨_, Lib.hid rfl⟩
    rw [← Hwt4.out]
    have hqn : q ∉ bl := fun hh => by have := (I5.2 _ hh).1; omega
    have hqn6 : q ∉ _ := fun hh => by have := hI6 _ hh; omega
    have HFq : Hid (Blk wt4 q 26 #[.int .i64 y.1, .slice AY mY cY]) := by rw [Hwt4.out]; show Blk _ _ _ _; simpa using (Bq.set_ 0 (.int .i64 y.1)).set_ 1 (.slice AY mY cY)
    have HFr : Hid (Blk wt4 r 26 #[.int .i64 (nN : Int), .slice AX mX cX]) := by rw [Hwt4.out]; show Blk _ _ _ _; exact (Br.farH (show q ≠ r by omega) _).farH (show q ≠ r by omega) _
    have HF5 := Lib.hid (Sh.oset' (p := ⟨q, 1, none⟩) (Sh.oset' (p := ⟨q, 0, none⟩) O5 hqn (.int .i64 y.1)) hqn (.slice AY mY cY))
    have HF6 := Lib.hid (Sh.oset' (p := ⟨q, 1, none⟩) (Sh.oset' (p := ⟨q, 0, none⟩) O6 hqn6 (.int .i64 y.1)) hqn6 (.slice AY mY cY))
    rw [← Hwt4.out] at HF5 HF6
    have HFT : Hid (Below w.heap.size w wt4) := by rw [Hwt4.out]; show Below _ _ _; exact (HT6.setCell (p := ⟨q, 0, none⟩) (by show w.heap.size ≤ q; omega) _).setCell (p := ⟨q, 1, none⟩) (by show w.heap.size ≤ q; omega) _
    replace cX0 : wt4.cell? ⟨gx, 0, none⟩ = some (.int .i64 (nN : Int)) := by rw [Hwt4.out]; rw [cell_far2H hqx]; exact cX0
    replace cX1 : wt4.cell? ⟨gx, 1, none⟩ = some (.slice AX mX cX) := by rw [Hwt4.out]; rw [cell_far2H hqx]; exact cX1
    refine hK.out _ _ ⟨cX0, cX1⟩ (fun hHeld3 => ?_)
    clear hK K hHeld2
    (try simp only [Act.put, zA, zB, zC, zD, zE, zF])
    (try simp only [Act.put, zA, zB, zC, zD, zE, zF])
    refine wpAnyH_done (by kernel_rfl) ?_ _
    clear hHeld3 O5 O6 hgr Br Bq BX
    (try clear hoL)
    go_wp2_with fail
    (try simp only [Exit.inBlock, Exit.then])
    refine bodyPost_ret (v := .tuple #[.agg #[.int .i64 (nN : Int), .slice AX mX cX], .agg #[.int .i64 y.1, .slice AY mY cY]]) (res_row_rowH rfl _ _ r q 26 26 #[.int .i64 (nN : Int), .slice AX mX cX] #[.int .i64 y.1, .slice AY mY cY] (0, 0) (0, 0) _ _ (by simp) (by simp) HFr.out HFq.out Try.underlying26 Try.underlying26 rfl rfl (by kernel_rfl) (by kernel_rfl)) rfl ?_
    exact ⟨_, _, _, _, rfl, shAlgebra.ord HF5.out, shAlgebra.ord HF6.out, HFT.out⟩
  · have HPB := Lib.hid (l2PermB_any N p cN nN L w6 (rd_of_own (R := RI) hown (HLR.out _)) (by omega))
    clear HGO
    go_wp2_with fail
    refine HPB.out.mono ?_
    rintro e w7 ⟨rfl, hb7⟩
    have hz7 := hb7.size
    replace O5 := Sh.onext O5 hb7
    replace Br := Br.next hb7
    replace Bq := Bq.next hb7
    replace BX := BX.next hb7
    replace hgr := growB_trans hgr (toGr (r := some g) hb7)
    replace hcu := hcu.next_ hb7
    clear cX0 cX1
    have cX0 := BX.cell 0
    have cX1 := BX.cell 1
    simp at cX0 cX1
    replace hown := own_next hown hb7
    clear HPB
    rcases hpb : permB nN L with _ | _
    · clear hown
      replace hcu := hcu.mono (show 4000 ≤ 5000 by omega)
      go_upto_region 6 with fail
      refine wp_region_held_drew (S := fun w' => w'.cell? ⟨gx, 0, none⟩ = some (.int .i64 (nN : Int)) ∧ w'.cell? ⟨gx, 1, none⟩ = some (.slice AX mX cX)) (by kernel_rfl) ⟨cX0, cX1⟩ (fun hHeld0 => ?_)
      obtain ⟨wt1, Hwt1⟩ : ∃ x, Hid (x = World.drew w7) := ⟨_, rfl⟩
      have hbwt1 : Below w7.heap.size w7 wt1 := by rw [Hwt1.out]; exact (Below.refl _ _).drew
      rw [← Hwt1.out] at hHeld0 ⊢
      have ywt1 := hbwt1.size
      replace O5 := Sh.onext O5 hbwt1
      replace Br := Br.next hbwt1
      replace Bq := Bq.next hbwt1
      replace BX := BX.next hbwt1
      replace hgr := growB_trans hgr (toGr hbwt1)
      replace hcu := hcu.next_ hbwt1
      replace cX0 := keepc hbwt1 cX0
      replace cX1 := keepc hbwt1 cX1
      refine tk 0 (.agg #[.int .i64 (nN : Int), .slice AX mX cX]) rfl (.inl ⟨by kernel_rfl, fun wv hSw => by (obtain ⟨hS0, hS1⟩ := hSw); go_simp⟩) ?_
      refine tp 1 (.pointer (some ⟨g, 0, none⟩)) rfl ?_
      (try simp only [Act.put, zA, zB, zC, zD, zE, zF])
      refine r1 2 rfl (fun K hK => ?_)
      go_simp
      go_at_call 23
      refine (alg31H B g 5000 wt1 hcu (by omega) (by omega)).mono ?_
      rintro e wt2 ⟨es, y, bl2, rfl, O6, I6, -, -, hgs⟩
      obtain ⟨AY, mY, cY, hes, -, -⟩ := rdAlgebra (shAlgebra.ord O6)
      subst hes
      have hzs := hgs.size
      have hI6 : ∀ b ∈ bl2, wt1.heap.size ≤ b := fun b hb => (I6.2 b hb).1
      replace O5 := Sh.ogrown O5 hgs I5 (by omega)
      replace Br := Br.grownG hgs (by omega)
      replace Bq := Bq.grownG hgs (by omega)
      replace BX := BX.grownG hgs (by omega)
      replace hgr := growB_trans hgr hgs
      replace cX0 := BX.cell 0
      replace cX1 := BX.cell 1
      simp at cX0 cX1
      clear hcu I6
      go_wp2_with fail
      refine hK.out _ _ ⟨cX0, cX1⟩ (fun hHeld1 => ?_)
      clear hK K hHeld0
      (try simp only [Act.put, zA, zB, zC, zD, zE, zF])
      (try simp only [Act.put, zA, zB, zC, zD, zE, zF])
      refine r1 3 rfl (fun K hK => ?_)
      have fR0 := Br.frozen 0
      have fR1 := Br.frozen 1
      have cR0 := Br.cell 0
      have cR1 := Br.cell 1
      simp at cR0 cR1
      go_simp
      obtain ⟨wt3, Hwt3⟩ : ∃ z, Hid (z = (wt2.setCell ⟨r, 0, none⟩ (.int .i64 (nN : Int))).setCell ⟨r, 1, none⟩ (.slice AX mX cX)) := ⟨_, Lib.hid rfl⟩
      rw [← Hwt3.out]
      have hrn : r ∉ bl := fun hh => by have := (I5.2 _ hh).1; omega
      have hrm : ∀ q ∈ _, _ := hI6
      have hrn6 : r ∉ _ := fun hh => by have := hI6 _ hh; omega
      replace Br : Blk wt3 r 26 #[.int .i64 (nN : Int), .slice AX mX cX] := by rw [Hwt3.out]; simpa using (Br.set_ 0 (.int .i64 (nN : Int))).set_ 1 (.slice AX mX cX)
      replace Bq : Blk wt3 q 26 #[.int .i64 0, .slice none 0 0] := by rw [Hwt3.out]; exact (Bq.farH (show r ≠ q by omega) _).farH (show r ≠ q by omega) _
      replace O5 : shAlgebra.own wt3 [.int .i64 (nN : Int), .slice AX mX cX] ((nN : Int), ops) bl := by rw [Hwt3.out]; exact Sh.oset' (p := ⟨r, 1, none⟩) (Sh.oset' (p := ⟨r, 0, none⟩) O5 hrn _) hrn _
      have O6 := Sh.oset' (p := ⟨r, 1, none⟩) (Sh.oset' (p := ⟨r, 0, none⟩) O6 hrn6 (.int .i64 (nN : Int))) hrn6 (.slice AX mX cX)
      rw [← Hwt3.out] at O6
      have hzwt3 : wt3.heap.size = wt2.heap.size := by rw [Hwt3.out]; simp
      have HT6 : Below w.heap.size w wt3 := by rw [Hwt3.out]; exact ((HT1.out.grown hgr (by omega) (fun k e => by injection e with e; omega)).setCell (p := ⟨r, 0, none⟩) (by show w.heap.size ≤ r; omega) _).setCell (p := ⟨r, 1, none⟩) (by show w.heap.size ≤ r; omega) _
      replace cX0 : wt3.cell? ⟨gx, 0, none⟩ = some (.int .i64 (nN : Int)) := by rw [Hwt3.out]; rw [cell_far2H hrx]; exact cX0
      replace cX1 : wt3.cell? ⟨gx, 1, none⟩ = some (.slice AX mX cX) := by rw [Hwt3.out]; rw [cell_far2H hrx]; exact cX1
      clear fR0 fR1 cR0 cR1 hrn hrn6 hrm
      refine hK.out _ _ ⟨cX0, cX1⟩ (fun hHeld2 => ?_)
      clear hK K hHeld1
      (try simp only [Act.put, zA, zB, zC, zD, zE, zF])
      (try simp only [Act.put, zA, zB, zC, zD, zE, zF])
      refine r1 4 rfl (fun K hK => ?_)
      have fR0 := Bq.frozen 0
      have fR1 := Bq.frozen 1
      have cR0 := Bq.cell 0
      have cR1 := Bq.cell 1
      simp at cR0 cR1
      go_simp
      obtain ⟨wt4, Hwt4⟩ : ∃ z, Hid (z = (wt3.setCell ⟨q, 0, none⟩ (.int .i64 y.1)).setCell ⟨q, 1, none⟩ (.slice AY mY cY)) := ⟨_, Lib.hid rfl⟩
      rw [← Hwt4.out]
      have hqn : q ∉ bl := fun hh => by have := (I5.2 _ hh).1; omega
      have hqn6 : q ∉ _ := fun hh => by have := hI6 _ hh; omega
      have HFq : Hid (Blk wt4 q 26 #[.int .i64 y.1, .slice AY mY cY]) := by rw [Hwt4.out]; show Blk _ _ _ _; simpa using (Bq.set_ 0 (.int .i64 y.1)).set_ 1 (.slice AY mY cY)
      have HFr : Hid (Blk wt4 r 26 #[.int .i64 (nN : Int), .slice AX mX cX]) := by rw [Hwt4.out]; show Blk _ _ _ _; exact (Br.farH (show q ≠ r by omega) _).farH (show q ≠ r by omega) _
      have HF5 := Lib.hid (Sh.oset' (p := ⟨q, 1, none⟩) (Sh.oset' (p := ⟨q, 0, none⟩) O5 hqn (.int .i64 y.1)) hqn (.slice AY mY cY))
      have HF6 := Lib.hid (Sh.oset' (p := ⟨q, 1, none⟩) (Sh.oset' (p := ⟨q, 0, none⟩) O6 hqn6 (.int .i64 y.1)) hqn6 (.slice AY mY cY))
      rw [← Hwt4.out] at HF5 HF6
      have HFT : Hid (Below w.heap.size w wt4) := by rw [Hwt4.out]; show Below _ _ _; exact (HT6.setCell (p := ⟨q, 0, none⟩) (by show w.heap.size ≤ q; omega) _).setCell (p := ⟨q, 1, none⟩) (by show w.heap.size ≤ q; omega) _
      replace cX0 : wt4.cell? ⟨gx, 0, none⟩ = some (.int .i64 (nN : Int)) := by rw [Hwt4.out]; rw [cell_far2H hqx]; exact cX0
      replace cX1 : wt4.cell? ⟨gx, 1, none⟩ = some (.slice AX mX cX) := by rw [Hwt4.out]; rw [cell_far2H hqx]; exact cX1
      refine hK.out _ _ ⟨cX0, cX1⟩ (fun hHeld3 => ?_)
      clear hK K hHeld2
      (try simp only [Act.put, zA, zB, zC, zD, zE, zF])
      (try simp only [Act.put, zA, zB, zC, zD, zE, zF])
      refine wpAnyH_done (by kernel_rfl) ?_ _
      clear hHeld3 O5 O6 hgr Br Bq BX
      (try clear hoL)
      go_wp2_with fail
      (try simp only [Exit.inBlock, Exit.then])
      refine bodyPost_ret (v := .tuple #[.agg #[.int .i64 (nN : Int), .slice AX mX cX], .agg #[.int .i64 y.1, .slice AY mY cY]]) (res_row_rowH rfl _ _ r q 26 26 #[.int .i64 (nN : Int), .slice AX mX cX] #[.int .i64 y.1, .slice AY mY cY] (0, 0) (0, 0) _ _ (by simp) (by simp) HFr.out HFq.out Try.underlying26 Try.underlying26 rfl rfl (by kernel_rfl) (by kernel_rfl)) rfl ?_
      exact ⟨_, _, _, _, rfl, shAlgebra.ord HF5.out, shAlgebra.ord HF6.out, HFT.out⟩
    · have HON := Lib.hid (oneB_any g 4000 2 w7 hcu (by omega) (by omega))
      have HALG : Hid (AlgP ((nN : Int), ops)) := alg_iff.1 hab
      have HPL : Hid (PermL nN L) := tt_iff.1 hpb
      have HL := Lib.hid hown
      clear hcu hab hpb hown
      go_wp2_with fail
      refine HON.out.mono ?_
      rintro e w8 ⟨b, rfl, hcu, hg8⟩
      have hz8 := hg8.size
      replace O5 := Sh.ogrown O5 hg8 I5 (by omega)
      replace Br := Br.grownG hg8 (by omega)
      replace Bq := Bq.grownG hg8 (by omega)
      replace BX := BX.grownG hg8 (by omega)
      replace hgr := growB_trans hgr hg8
      clear cX0 cX1
      have cX0 := BX.cell 0
      have cX1 := BX.cell 1
      simp at cX0 cX1
      have HL := Lib.hid (own_grownG HL.out hg8 (by omega))
      clear HON hg8
      rcases b with _ | _
      · replace hcu := hcu.mono (show 4000 + 2 ≤ 5000 by omega)
        go_upto_region 6 with fail
        refine wp_region_held_drew (S := fun w' => w'.cell? ⟨gx, 0, none⟩ = some (.int .i64 (nN : Int)) ∧ w'.cell? ⟨gx, 1, none⟩ = some (.slice AX mX cX)) (by kernel_rfl) ⟨cX0, cX1⟩ (fun hHeld0 => ?_)
        obtain ⟨wt1, Hwt1⟩ : ∃ x, Hid (x = World.drew w8) := ⟨_, rfl⟩
        have hbwt1 : Below w8.heap.size w8 wt1 := by rw [Hwt1.out]; exact (Below.refl _ _).drew
        rw [← Hwt1.out] at hHeld0 ⊢
        have ywt1 := hbwt1.size
        replace O5 := Sh.onext O5 hbwt1
        replace Br := Br.next hbwt1
        replace Bq := Bq.next hbwt1
        replace BX := BX.next hbwt1
        replace hgr := growB_trans hgr (toGr hbwt1)
        replace hcu := hcu.next_ hbwt1
        replace cX0 := keepc hbwt1 cX0
        replace cX1 := keepc hbwt1 cX1
        refine tk 0 (.agg #[.int .i64 (nN : Int), .slice AX mX cX]) rfl (.inl ⟨by kernel_rfl, fun wv hSw => by (obtain ⟨hS0, hS1⟩ := hSw); go_simp⟩) ?_
        refine tp 1 (.pointer (some ⟨g, 0, none⟩)) rfl ?_
        (try simp only [Act.put, zA, zB, zC, zD, zE, zF])
        refine r1 2 rfl (fun K hK => ?_)
        go_simp
        go_at_call 23
        refine (alg31H B g 5000 wt1 hcu (by omega) (by omega)).mono ?_
        rintro e wt2 ⟨es, y, bl2, rfl, O6, I6, -, -, hgs⟩
        obtain ⟨AY, mY, cY, hes, -, -⟩ := rdAlgebra (shAlgebra.ord O6)
        subst hes
        have hzs := hgs.size
        have hI6 : ∀ b ∈ bl2, wt1.heap.size ≤ b := fun b hb => (I6.2 b hb).1
        replace O5 := Sh.ogrown O5 hgs I5 (by omega)
        replace Br := Br.grownG hgs (by omega)
        replace Bq := Bq.grownG hgs (by omega)
        replace BX := BX.grownG hgs (by omega)
        replace hgr := growB_trans hgr hgs
        replace cX0 := BX.cell 0
        replace cX1 := BX.cell 1
        simp at cX0 cX1
        clear hcu I6
        go_wp2_with fail
        refine hK.out _ _ ⟨cX0, cX1⟩ (fun hHeld1 => ?_)
        clear hK K hHeld0
        (try simp only [Act.put, zA, zB, zC, zD, zE, zF])
        (try simp only [Act.put, zA, zB, zC, zD, zE, zF])
        refine r1 3 rfl (fun K hK => ?_)
        have fR0 := Br.frozen 0
        have fR1 := Br.frozen 1
        have cR0 := Br.cell 0
        have cR1 := Br.cell 1
        simp at cR0 cR1
        go_simp
        obtain ⟨wt3, Hwt3⟩ : ∃ z, Hid (z = (wt2.setCell ⟨r, 0, none⟩ (.int .i64 (nN : Int))).setCell ⟨r, 1, none⟩ (.slice AX mX cX)) := ⟨_, Lib.hid rfl⟩
        rw [← Hwt3.out]
        have hrn : r ∉ bl := fun hh => by have := (I5.2 _ hh).1; omega
        have hrm : ∀ q ∈ _, _ := hI6
        have hrn6 : r ∉ _ := fun hh => by have := hI6 _ hh; omega
        replace Br : Blk wt3 r 26 #[.int .i64 (nN : Int), .slice AX mX cX] := by rw [Hwt3.out]; simpa using (Br.set_ 0 (.int .i64 (nN : Int))).set_ 1 (.slice AX mX cX)
        replace Bq : Blk wt3 q 26 #[.int .i64 0, .slice none 0 0] := by rw [Hwt3.out]; exact (Bq.farH (show r ≠ q by omega) _).farH (show r ≠ q by omega) _
        replace O5 : shAlgebra.own wt3 [.int .i64 (nN : Int), .slice AX mX cX] ((nN : Int), ops) bl := by rw [Hwt3.out]; exact Sh.oset' (p := ⟨r, 1, none⟩) (Sh.oset' (p := ⟨r, 0, none⟩) O5 hrn _) hrn _
        have O6 := Sh.oset' (p := ⟨r, 1, none⟩) (Sh.oset' (p := ⟨r, 0, none⟩) O6 hrn6 (.int .i64 (nN : Int))) hrn6 (.slice AX mX cX)
        rw [← Hwt3.out] at O6
        have hzwt3 : wt3.heap.size = wt2.heap.size := by rw [Hwt3.out]; simp
        have HT6 : Below w.heap.size w wt3 := by rw [Hwt3.out]; exact ((HT1.out.grown hgr (by omega) (fun k e => by injection e with e; omega)).setCell (p := ⟨r, 0, none⟩) (by show w.heap.size ≤ r; omega) _).setCell (p := ⟨r, 1, none⟩) (by show w.heap.size ≤ r; omega) _
        replace cX0 : wt3.cell? ⟨gx, 0, none⟩ = some (.int .i64 (nN : Int)) := by rw [Hwt3.out]; rw [cell_far2H hrx]; exact cX0
        replace cX1 : wt3.cell? ⟨gx, 1, none⟩ = some (.slice AX mX cX) := by rw [Hwt3.out]; rw [cell_far2H hrx]; exact cX1
        clear fR0 fR1 cR0 cR1 hrn hrn6 hrm
        refine hK.out _ _ ⟨cX0, cX1⟩ (fun hHeld2 => ?_)
        clear hK K hHeld1
        (try simp only [Act.put, zA, zB, zC, zD, zE, zF])
        (try simp only [Act.put, zA, zB, zC, zD, zE, zF])
        refine r1 4 rfl (fun K hK => ?_)
        have fR0 := Bq.frozen 0
        have fR1 := Bq.frozen 1
        have cR0 := Bq.cell 0
        have cR1 := Bq.cell 1
        simp at cR0 cR1
        go_simp
        obtain ⟨wt4, Hwt4⟩ : ∃ z, Hid (z = (wt3.setCell ⟨q, 0, none⟩ (.int .i64 y.1)).setCell ⟨q, 1, none⟩ (.slice AY mY cY)) := ⟨_, Lib.hid rfl⟩
        rw [← Hwt4.out]
        have hqn : q ∉ bl := fun hh => by have := (I5.2 _ hh).1; omega
        have hqn6 : q ∉ _ := fun hh => by have := hI6 _ hh; omega
        have HFq : Hid (Blk wt4 q 26 #[.int .i64 y.1, .slice AY mY cY]) := by rw [Hwt4.out]; show Blk _ _ _ _; simpa using (Bq.set_ 0 (.int .i64 y.1)).set_ 1 (.slice AY mY cY)
        have HFr : Hid (Blk wt4 r 26 #[.int .i64 (nN : Int), .slice AX mX cX]) := by rw [Hwt4.out]; show Blk _ _ _ _; exact (Br.farH (show q ≠ r by omega) _).farH (show q ≠ r by omega) _
        have HF5 := Lib.hid (Sh.oset' (p := ⟨q, 1, none⟩) (Sh.oset' (p := ⟨q, 0, none⟩) O5 hqn (.int .i64 y.1)) hqn (.slice AY mY cY))
        have HF6 := Lib.hid (Sh.oset' (p := ⟨q, 1, none⟩) (Sh.oset' (p := ⟨q, 0, none⟩) O6 hqn6 (.int .i64 y.1)) hqn6 (.slice AY mY cY))
        rw [← Hwt4.out] at HF5 HF6
        have HFT : Hid (Below w.heap.size w wt4) := by rw [Hwt4.out]; show Below _ _ _; exact (HT6.setCell (p := ⟨q, 0, none⟩) (by show w.heap.size ≤ q; omega) _).setCell (p := ⟨q, 1, none⟩) (by show w.heap.size ≤ q; omega) _
        replace cX0 : wt4.cell? ⟨gx, 0, none⟩ = some (.int .i64 (nN : Int)) := by rw [Hwt4.out]; rw [cell_far2H hqx]; exact cX0
        replace cX1 : wt4.cell? ⟨gx, 1, none⟩ = some (.slice AX mX cX) := by rw [Hwt4.out]; rw [cell_far2H hqx]; exact cX1
        refine hK.out _ _ ⟨cX0, cX1⟩ (fun hHeld3 => ?_)
        clear hK K hHeld2
        (try simp only [Act.put, zA, zB, zC, zD, zE, zF])
        (try simp only [Act.put, zA, zB, zC, zD, zE, zF])
        refine wpAnyH_done (by kernel_rfl) ?_ _
        clear hHeld3 O5 O6 hgr Br Bq BX
        (try clear hoL)
        go_wp2_with fail
        (try simp only [Exit.inBlock, Exit.then])
        refine bodyPost_ret (v := .tuple #[.agg #[.int .i64 (nN : Int), .slice AX mX cX], .agg #[.int .i64 y.1, .slice AY mY cY]]) (res_row_rowH rfl _ _ r q 26 26 #[.int .i64 (nN : Int), .slice AX mX cX] #[.int .i64 y.1, .slice AY mY cY] (0, 0) (0, 0) _ _ (by simp) (by simp) HFr.out HFq.out Try.underlying26 Try.underlying26 rfl rfl (by kernel_rfl) (by kernel_rfl)) rfl ?_
        exact ⟨_, _, _, _, rfl, shAlgebra.ord HF5.out, shAlgebra.ord HF6.out, HFT.out⟩
      · clear hcu
        have hoL := HL.out
        go_upto_region 5 with fail
        refine wp_region_held_drew (S := fun w' => w'.cell? ⟨gx, 0, none⟩ = some (.int .i64 (nN : Int)) ∧ w'.cell? ⟨gx, 1, none⟩ = some (.slice AX mX cX)) (by kernel_rfl) ⟨cX0, cX1⟩ (fun hHeld0 => ?_)
        obtain ⟨wt1, Hwt1⟩ : ∃ x, Hid (x = World.drew w8) := ⟨_, rfl⟩
        have hbwt1 : Below w8.heap.size w8 wt1 := by rw [Hwt1.out]; exact (Below.refl _ _).drew
        rw [← Hwt1.out] at hHeld0 ⊢
        have ywt1 := hbwt1.size
        replace O5 := Sh.onext O5 hbwt1
        replace Br := Br.next hbwt1
        replace Bq := Bq.next hbwt1
        replace BX := BX.next hbwt1
        replace hgr := growB_trans hgr (toGr hbwt1)
        replace hoL := own_next hoL hbwt1
        replace cX0 := keepc hbwt1 cX0
        replace cX1 := keepc hbwt1 cX1
        refine tk 0 (.agg #[.int .i64 (nN : Int), .slice AX mX cX]) rfl (.inl ⟨by kernel_rfl, fun wv hSw => by (obtain ⟨hS0, hS1⟩ := hSw); go_simp⟩) ?_
        refine tk 1 (.agg #[.int .i64 (nN : Int), .slice AX mX cX]) rfl (.inl ⟨by kernel_rfl, fun wv hSw => by (obtain ⟨hS0, hS1⟩ := hSw); go_simp⟩) ?_
        refine tp 2 (.slice N p cN) rfl ?_
        (try simp only [Act.put, zA, zB, zC, zD, zE, zF])
        refine r1 3 rfl (fun K hK => ?_)
        go_simp
        go_at_call 28
        refine (l2Rename8_any _ ((nN : Int), ops) N p cN L wt1 (shAlgebra.ord O5) (rd_of_own (R := RI) hoL (HLR.out _)) HALG.out HPL.out).mono ?_
        rintro e wt2 ⟨v, css, bls, rfl, HPO, hbs⟩
        obtain ⟨y, HY⟩ : ∃ y, y = ren ((nN : Int), ops) L := ⟨_, rfl⟩
        rw [← HY] at HPO ⊢
        have hy1 : Hid (y.1 = (nN : Int)) := by show _ = _; rw [HY]; rfl
        have O6 := HPO.algO (a := y.1) (by rw [hy1.out]; exact ⟨by omega, by omega⟩)
        have hI6 : ∀ b ∈ obl v ++ bls.flatten, wt1.heap.size ≤ b := fun b hb => (HPO.2.2.2 b hb).1
        obtain ⟨AY, mY, cY, hes, -, -⟩ := rdAlgebra (shAlgebra.ord O6)
        injection hes with _ hes
        injection hes with hes _
        subst hes
        have hzs := hbs.size
        clear hoL
        replace O5 := Sh.onext O5 hbs
        replace Br := Br.next hbs
        replace Bq := Bq.next hbs
        replace BX := BX.next hbs
        replace hgr := growB_trans hgr (toGr (r := some g) hbs)
        replace cX0 := BX.cell 0
        replace cX1 := BX.cell 1
        simp at cX0 cX1
        clear HY HPO
        go_wp2_with fail
        refine hK.out _ _ ⟨cX0, cX1⟩ (fun hHeld1 => ?_)
        clear hK K hHeld0
        (try simp only [Act.put, zA, zB, zC, zD, zE, zF])
        (try simp only [Act.put, zA, zB, zC, zD, zE, zF])
        refine r1 4 rfl (fun K hK => ?_)
        have fR0 := Br.frozen 0
        have fR1 := Br.frozen 1
        have cR0 := Br.cell 0
        have cR1 := Br.cell 1
        simp at cR0 cR1
        go_simp
        obtain ⟨wt3, Hwt3⟩ : ∃ z, Hid (z = (wt2.setCell ⟨r, 0, none⟩ (.int .i64 (nN : Int))).setCell ⟨r, 1, none⟩ (.slice AX mX cX)) := ⟨_, Lib.hid rfl⟩
        rw [← Hwt3.out]
        have hrn : r ∉ bl := fun hh => by have := (I5.2 _ hh).1; omega
        have hrm : ∀ q ∈ _, _ := hI6
        have hrn6 : r ∉ _ := fun hh => by have := hI6 _ hh; omega
        replace Br : Blk wt3 r 26 #[.int .i64 (nN : Int), .slice AX mX cX] := by rw [Hwt3.out]; simpa using (Br.set_ 0 (.int .i64 (nN : Int))).set_ 1 (.slice AX mX cX)
        replace Bq : Blk wt3 q 26 #[.int .i64 0, .slice none 0 0] := by rw [Hwt3.out]; exact (Bq.farH (show r ≠ q by omega) _).farH (show r ≠ q by omega) _
        replace O5 : shAlgebra.own wt3 [.int .i64 (nN : Int), .slice AX mX cX] ((nN : Int), ops) bl := by rw [Hwt3.out]; exact Sh.oset' (p := ⟨r, 1, none⟩) (Sh.oset' (p := ⟨r, 0, none⟩) O5 hrn _) hrn _
        have O6 := Sh.oset' (p := ⟨r, 1, none⟩) (Sh.oset' (p := ⟨r, 0, none⟩) O6 hrn6 (.int .i64 (nN : Int))) hrn6 (.slice AX mX cX)
        rw [← Hwt3.out] at O6
        have hzwt3 : wt3.heap.size = wt2.heap.size := by rw [Hwt3.out]; simp
        have HT6 : Below w.heap.size w wt3 := by rw [Hwt3.out]; exact ((HT1.out.grown hgr (by omega) (fun k e => by injection e with e; omega)).setCell (p := ⟨r, 0, none⟩) (by show w.heap.size ≤ r; omega) _).setCell (p := ⟨r, 1, none⟩) (by show w.heap.size ≤ r; omega) _
        replace cX0 : wt3.cell? ⟨gx, 0, none⟩ = some (.int .i64 (nN : Int)) := by rw [Hwt3.out]; rw [cell_far2H hrx]; exact cX0
        replace cX1 : wt3.cell? ⟨gx, 1, none⟩ = some (.slice AX mX cX) := by rw [Hwt3.out]; rw [cell_far2H hrx]; exact cX1
        clear fR0 fR1 cR0 cR1 hrn hrn6 hrm
        refine hK.out _ _ ⟨cX0, cX1⟩ (fun hHeld2 => ?_)
        clear hK K hHeld1
        (try simp only [Act.put, zA, zB, zC, zD, zE, zF])
        (try simp only [Act.put, zA, zB, zC, zD, zE, zF])
        refine r1 5 rfl (fun K hK => ?_)
        have fR0 := Bq.frozen 0
        have fR1 := Bq.frozen 1
        have cR0 := Bq.cell 0
        have cR1 := Bq.cell 1
        simp at cR0 cR1
        go_simp
        obtain ⟨wt4, Hwt4⟩ : ∃ z, Hid (z = (wt3.setCell ⟨q, 0, none⟩ (.int .i64 y.1)).setCell ⟨q, 1, none⟩ (.slice AY mY cY)) := ⟨_, Lib.hid rfl⟩
        rw [← Hwt4.out]
        have hqn : q ∉ bl := fun hh => by have := (I5.2 _ hh).1; omega
        have hqn6 : q ∉ _ := fun hh => by have := hI6 _ hh; omega
        have HFq : Hid (Blk wt4 q 26 #[.int .i64 y.1, .slice AY mY cY]) := by rw [Hwt4.out]; show Blk _ _ _ _; simpa using (Bq.set_ 0 (.int .i64 y.1)).set_ 1 (.slice AY mY cY)
        have HFr : Hid (Blk wt4 r 26 #[.int .i64 (nN : Int), .slice AX mX cX]) := by rw [Hwt4.out]; show Blk _ _ _ _; exact (Br.farH (show q ≠ r by omega) _).farH (show q ≠ r by omega) _
        have HF5 := Lib.hid (Sh.oset' (p := ⟨q, 1, none⟩) (Sh.oset' (p := ⟨q, 0, none⟩) O5 hqn (.int .i64 y.1)) hqn (.slice AY mY cY))
        have HF6 := Lib.hid (Sh.oset' (p := ⟨q, 1, none⟩) (Sh.oset' (p := ⟨q, 0, none⟩) O6 hqn6 (.int .i64 y.1)) hqn6 (.slice AY mY cY))
        rw [← Hwt4.out] at HF5 HF6
        have HFT : Hid (Below w.heap.size w wt4) := by rw [Hwt4.out]; show Below _ _ _; exact (HT6.setCell (p := ⟨q, 0, none⟩) (by show w.heap.size ≤ q; omega) _).setCell (p := ⟨q, 1, none⟩) (by show w.heap.size ≤ q; omega) _
        replace cX0 : wt4.cell? ⟨gx, 0, none⟩ = some (.int .i64 (nN : Int)) := by rw [Hwt4.out]; rw [cell_far2H hqx]; exact cX0
        replace cX1 : wt4.cell? ⟨gx, 1, none⟩ = some (.slice AX mX cX) := by rw [Hwt4.out]; rw [cell_far2H hqx]; exact cX1
        refine hK.out _ _ ⟨cX0, cX1⟩ (fun hHeld3 => ?_)
        clear hK K hHeld2
        (try simp only [Act.put, zA, zB, zC, zD, zE, zF])
        (try simp only [Act.put, zA, zB, zC, zD, zE, zF])
        refine wpAnyH_done (by kernel_rfl) ?_ _
        clear hHeld3 O5 O6 hgr Br Bq BX
        (try clear hoL)
        go_wp2_with fail
        (try simp only [Exit.inBlock, Exit.then])
        refine bodyPost_ret (v := .tuple #[.agg #[.int .i64 (nN : Int), .slice AX mX cX], .agg #[.int .i64 y.1, .slice AY mY cY]]) (res_row_rowH rfl _ _ r q 26 26 #[.int .i64 (nN : Int), .slice AX mX cX] #[.int .i64 y.1, .slice AY mY cY] (0, 0) (0, 0) _ _ (by simp) (by simp) HFr.out HFq.out Try.underlying26 Try.underlying26 rfl rfl (by kernel_rfl) (by kernel_rfl)) rfl ?_
        exact ⟨_, _, _, _, rfl, shAlgebra.ord HF5.out, shAlgebra.ord HF6.out, HFT.out⟩
theorem rInts_any (A B : Option Addr) (n m c d : Nat) (xs ys : List Int) (w : World) (h : RdL RI w A n xs) (h' : RdL RI w B m ys) :
    Calls Try.prog 43 #[.slice A n c, .slice B m d] w (Qt w (.bool (eqL xs ys))) := by
  have hle := h.le
  have hle' := h'.le
  by_cases hnm : n = m
  · subst hnm
    go_enter Try.func43, Try.ntmps43
    go_wp2
    go_loopw [5] (fun i wr => ∃ k : Nat, k ≤ n ∧ i = .int .i64 k ∧ At2 eqL xs ys k ∧ Drawn w wr) (fun i _ => n - (intOf i).toNat)
    case atStart => exact ⟨0, Nat.zero_le _, rfl, rfl, Drawn.zero _⟩
    case round =>
      obtain ⟨k, hk, rfl, H, z, rfl⟩ := hrel
      by_cases hlt : k < n
      · obtain ⟨b, o, v, x, rfl, hc, ⟨rfl, -⟩, hd, -⟩ := h.at hlt
        obtain ⟨b', o', v', y, rfl, hc', ⟨rfl, -⟩, hd', -⟩ := h'.at hlt
        have H1 := Lib.hid hd
        have H2 := Lib.hid hd'
        clear hd hd'
        go_wp2
        go_quiet (fail)
        go_wp2
        all_goals first
          | (go_ret
             exact ⟨ret_bool (H.stop H1.out H2.out (by rw [eqL, show (x == y) = false from (by first | assumption | exact bf1 (by assumption) | exact bf2 (by assumption) | exact nef (by assumption) | exact nefc (by assumption) | exact eqc (by assumption))]; rfl)), (by first | exact Drawn.zero _ | exact Drawn.at_ _ _ | exact (Drawn.at_ _ _).more _ | exact ((Drawn.at_ _ _).more _).more _)⟩)
          | (go_roundw
             case rel => exact ⟨k + 1, by omega, by go_num, H.step H1.out H2.out (by rw [eqL, show (x == y) = true from (by first | assumption | exact bt2 (by assumption) | exact net (by assumption) | exact netc (by assumption) | exact eqc (by assumption))]; rfl), (by first | exact Drawn.zero _ | exact Drawn.at_ _ _ | exact (Drawn.at_ _ _).more _ | exact ((Drawn.at_ _ _).more _).more _)⟩
             case measure => simp [intOf]; omega)
      · go_wp2
        go_ret
        exact ⟨ret_bool (H.done (h.drop_end hlt) (h'.drop_end hlt) rfl), (by first | exact Drawn.zero _ | exact Drawn.at_ _ _ | exact (Drawn.at_ _ _).more _ | exact ((Drawn.at_ _ _).more _).more _)⟩
  · have hne : ((n : Int) != (m : Int)) = true := by rw [bne_iff_ne]; omega
    go_enter Try.func43, Try.ntmps43
    go_wp2
    go_ret
    exact ⟨ret_bool (eqL_len (by rw [h.len, h'.len]; omega)), (by first | exact Drawn.zero _ | exact Drawn.at_ _ _ | exact (Drawn.at_ _ _).more _ | exact ((Drawn.at_ _ _).more _).more _)⟩
theorem rPlace_any (A B : Option Addr) (n m c d : Nat) (xss : List (List Int)) (p : List Int) (w : World) (h : RdL (RV RI) w A n xss) (h' : RdL RI w B m p) :
    Calls Try.prog 17 #[.slice A n c, .slice B m d] w (Qt w (.int .i64 (place xss p))) := by
  have hle := h.le
  go_enter Try.func17, Try.ntmps17
  go_wp2
  go_loopw [5] (fun i wr => ∃ k : Nat, k ≤ n ∧ i = .int .i64 k ∧ PlAt xss p k ∧ Drawn w wr) (fun i _ => n - (intOf i).toNat)
  case atStart => exact ⟨0, Nat.zero_le _, rfl, rfl, Drawn.zero _⟩
  case round =>
    obtain ⟨k, hk, rfl, H, z, rfl⟩ := hrel
    by_cases hlt : k < n
    · obtain ⟨b, o, v, q, rfl, hc, ⟨Q, j, g, rfl, hq⟩, hd, -⟩ := h.at hlt
      have H1 := Lib.hid hd
      clear hd
      have H2 := Lib.hid (eqL_comm q p)
      go_wp2_with (go_at_call 43; refine (rInts_any _ _ _ _ _ _ _ _ _ (hq.drewN stab_RI _) (h'.drewN stab_RI _)).mono ?_; rintro e w' ⟨rfl, z', rfl⟩)
      all_goals first
        | (go_ret
           exact ⟨ret_int (H.stop H1.out (by rw [← H2.out]; exact (by first | assumption | exact bt2 (by assumption) | exact net (by assumption) | exact netc (by assumption) | exact eqc (by assumption)))), (by first | exact Drawn.zero _ | exact Drawn.at_ _ _ | exact (Drawn.at_ _ _).more _ | exact ((Drawn.at_ _ _).more _).more _)⟩)
        | (go_roundw
           case rel => exact ⟨k + 1, by omega, by go_num, H.step H1.out (by rw [← H2.out]; exact (by first | assumption | exact bf1 (by assumption) | exact bf2 (by assumption) | exact nef (by assumption) | exact nefc (by assumption) | exact eqc (by assumption))), (by first | exact Drawn.zero _ | exact Drawn.at_ _ _ | exact (Drawn.at_ _ _).more _ | exact ((Drawn.at_ _ _).more _).more _)⟩
           case measure => simp [intOf]; omega)
    · go_wp2
      go_ret
      exact ⟨ret_int (H.done (h.drop_end hlt)), (by first | exact Drawn.zero _ | exact Drawn.at_ _ _ | exact (Drawn.at_ _ _).more _ | exact ((Drawn.at_ _ _).more _).more _)⟩
theorem rTable_any (A B : Option Addr) (n m c d : Nat) (xs ys : List (List Int)) (w : World) (h : RdL (RV RI) w A n xs) (h' : RdL (RV RI) w B m ys) :
    Calls Try.prog 12 #[.slice A n c, .slice B m d] w (Qt w (.bool (eqLL xs ys))) := by
  have hle := h.le
  have hle' := h'.le
  by_cases hnm : n = m
  · subst hnm
    go_enter Try.func12, Try.ntmps12
    go_wp2
    go_loopw [5] (fun i wr => ∃ k : Nat, k ≤ n ∧ i = .int .i64 k ∧ EqqAt xs ys k ∧ Drawn w wr) (fun i _ => n - (intOf i).toNat)
    case atStart => exact ⟨0, Nat.zero_le _, rfl, rfl, Drawn.zero _⟩
    case round =>
      obtain ⟨k, hk, rfl, H, z, rfl⟩ := hrel
      by_cases hlt : k < n
      · obtain ⟨b, o, v, x, rfl, hc, ⟨P, p, q, rfl, hx⟩, hd, -⟩ := h.at hlt
        obtain ⟨b', o', v', y, rfl, hc', ⟨P', p', q', rfl, hy⟩, hd', -⟩ := h'.at hlt
        have H1 := Lib.hid hd
        have H2 := Lib.hid hd'
        clear hd hd'
        go_wp2
        go_quiet ((go_at_call 43; exact quiet_add (rInts_any _ _ _ _ _ _ _ _ _ (hx.drewN stab_RI _) (hy.drewN stab_RI _))))
        go_wp2
        all_goals first
          | (go_ret
             exact ⟨ret_bool (H.stop H1.out H2.out (by simpa using ‹(!eqL x y) = true›)), (by first | exact Drawn.zero _ | exact Drawn.at_ _ _ | exact (Drawn.at_ _ _).more _ | exact ((Drawn.at_ _ _).more _).more _)⟩)
          | (go_roundw
             case rel => exact ⟨k + 1, by omega, by go_num, H.step H1.out H2.out (by simpa using ‹(!eqL x y) = false›), (by first | exact Drawn.zero _ | exact Drawn.at_ _ _ | exact (Drawn.at_ _ _).more _ | exact ((Drawn.at_ _ _).more _).more _)⟩
             case measure => simp [intOf]; omega)
      · go_wp2
        go_ret
        exact ⟨ret_bool (H.done (h.drop_end hlt) (h'.drop_end hlt)), (by first | exact Drawn.zero _ | exact Drawn.at_ _ _ | exact (Drawn.at_ _ _).more _ | exact ((Drawn.at_ _ _).more _).more _)⟩
  · have hne : ((n : Int) != (m : Int)) = true := by rw [bne_iff_ne]; omega
    go_enter Try.func12, Try.ntmps12
    go_wp2
    go_ret
    exact ⟨ret_bool (eqLL_len (by rw [h.len, h'.len]; omega)), (by first | exact Drawn.zero _ | exact Drawn.at_ _ _ | exact (Drawn.at_ _ _).more _ | exact ((Drawn.at_ _ _).more _).more _)⟩
theorem rOp_any (cs ds : List Value) (x y : OpM) (w : World) (h : shOp.rd w cs x) (h' : shOp.rd w ds y) :
    Calls Try.prog 80 #[.agg cs.toArray, .agg ds.toArray] w (Bl w (.bool (eqC x y))) := by
  obtain ⟨A, n, c, rfl, -, q⟩ := rdOp h
  obtain ⟨A', n', c', rfl, -, q'⟩ := rdOp h'
  obtain ⟨w0, hw0, T0, hsz0, BP, BQ⟩ := boxes2 w #[.int .i64 x.1, .slice A n c] #[.int .i64 y.1, .slice A' n' c'] 72 72
  replace q := q.next stab_RI T0
  replace q' := q'.next stab_RI T0
  have HD : Hid (eqC x y = (eqC x.1 y.1 && eqL x.2 y.2)) := by show _ = _; rw [eqL_dec]; exact dec_pair ..
  have HW0 := Lib.hid hw0
  have cP0 := BP.cell 0
  have cP1 := BP.cell 1
  have cQ0 := BQ.cell 0
  have cQ1 := BQ.cell 1
  simp at cP0 cP1 cQ0 cQ1
  have HC := Lib.hid (bl_of_quiet (rInts_any A A' n n' c c' x.2 y.2 w0 q q'))
  clear hw0 hsz0
  go_enter Try.func80, Try.ntmps80
  go_upto_region 1 with fail
  rw [← HW0.out]
  rcases hd0 : eqC x.1 y.1 with _ | _
  · have ht : (x.1 == y.1) = false := by have := eqC_no.1 hd0; simpa using this
    have HH := Lib.hid hd0
    clear hd0
    go_wp2_with fail
    go_ret
    exact ⟨ret_bool (by rw [HD.out, HH.out]; rfl), T0⟩
  · have ht : (x.1 == y.1) = true := by have := eqC_iff.1 hd0; simpa using this
    have HH := Lib.hid hd0
    clear hd0
    go_wp2_with fail
    refine HC.out.mono ?_
    rintro e w1 ⟨rfl, hb1⟩
    go_wp2_with fail
    go_ret
    exact ⟨ret_bool (by rw [HD.out, HH.out]; simp), below_next T0 hb1 rfl⟩
theorem rOps_any (A B : Option Addr) (n m c d : Nat) (xs ys : List OpM) (w : World) (h : RdN shOp.m shOp.rd w A n xs) (h' : RdN shOp.m shOp.rd w B m ys) :
    Calls Try.prog 50 #[.slice A n c, .slice B m d] w (Bl w (.bool (eqC xs ys))) := by
  have hle := h.le
  have hle' := h'.le
  by_cases hnm : n = m
  · subst hnm
    go_enter Try.func50, Try.ntmps50
    go_wp2
    go_loopw [5] (fun i wr => ∃ k : Nat, k ≤ n ∧ i = .int .i64 k ∧ EqdAt xs ys k ∧ Below w.heap.size w wr) (fun i _ => n - (intOf i).toNat)
    case atStart => exact ⟨0, Nat.zero_le _, rfl, EqdAt.start _ _, Below.refl _ _⟩
    case round =>
      obtain ⟨k, hk, rfl, H, hT⟩ := hrel
      replace h := h.next hT
      replace h' := h'.next hT
      by_cases hlt : k < n
      · obtain ⟨b, o, vs, x, rfl, -, hc, hr, hd, -⟩ := h.at hlt
        obtain ⟨b', o', vs', y, rfl, -, hc', hr', hd', -⟩ := h'.at hlt
        obtain ⟨ATable, nTable, cTable, rfl, qArity, qTable⟩ := rdOp hr
        obtain ⟨AyTable, nyTable, cyTable, rfl, qyArity, qyTable⟩ := rdOp hr'
        have cc0 : wr.cell? ⟨b, o + k * 2, none⟩ = some (.int .i64 x.1) := hc 0 _ rfl
        have dd0 : wr.cell? ⟨b', o' + k * 2, none⟩ = some (.int .i64 y.1) := hc' 0 _ rfl
        have cc1 : wr.cell? ⟨b, o + k * 2 + 1, none⟩ = some (.slice ATable nTable cTable) := hc 1 _ rfl
        have dd1 : wr.cell? ⟨b', o' + k * 2 + 1, none⟩ = some (.slice AyTable nyTable cyTable) := hc' 1 _ rfl
        clear hc hc'
        have H1 := Lib.hid hd
        have H2 := Lib.hid hd'
        clear hd hd'
        have hk0 : (0 : Int) ≤ (k : Int) := by omega
        have hk1 : (k : Int) < (n : Int) := by omega
        obtain ⟨e0, HE⟩ : ∃ e0, Hid (eqC x y = e0) := ⟨_, rfl⟩
        have Tk : Below wr.heap.size wr wr := Below.refl _ _
        go_upto_region 6 with fail
        go_cut [26] (fun v wx => v = .bool (!e0) ∧ Below wr.heap.size wr wx)
        case first =>
          go_region_held3 (fun w' => w'.cell? ⟨b, o + k * 2, none⟩ = some (.int .i64 x.1) ∧ w'.cell? ⟨b', o' + k * 2, none⟩ = some (.int .i64 y.1) ∧ w'.cell? ⟨b, o + k * 2 + 1, none⟩ = some (.slice ATable nTable cTable) ∧ w'.cell? ⟨b', o' + k * 2 + 1, none⟩ = some (.slice AyTable nyTable cyTable)) (first | go_keep | exact ⟨keepc Tk cc0, keepc Tk dd0, keepc Tk cc1, keepc Tk dd1⟩) ((go_at_call 80; refine (rOp_any [.int .i64 x.1, .slice ATable nTable cTable] [.int .i64 y.1, .slice AyTable nyTable cyTable] x y _ (shOp.stab hr (by first | exact Tk.block | exact (Below.drew Tk).block)) (shOp.stab hr' (by first | exact Tk.block | exact (Below.drew Tk).block))).mono ?_; rintro e wn ⟨rfl, hbn⟩; replace Tk := below_next (by first | exact Tk | exact Below.drew Tk) hbn rfl; rw [HE.out]))
          all_goals (go_wp2_with fail; go_meet; exact ⟨rfl, Tk⟩)
        case rest =>
          obtain ⟨rfl, hb4⟩ := hcut
          have hT4 := below_next hT hb4 rfl
          clear hb4 Tk cc0 dd0 cc1 dd1
          rcases e0 with _ | _
          · go_wp2_with fail
            go_ret
            exact ⟨ret_bool (H.stop H1.out H2.out HE.out), hT4⟩
          · go_wp2_with fail
            go_roundw
            case rel => exact ⟨k + 1, by omega, by go_num, H.step H1.out H2.out HE.out, hT4⟩
            case measure => simp [intOf]; omega
      · have hlt' : ¬ (k : Int) < (n : Int) := by omega
        go_wp2_with fail
        go_ret
        exact ⟨ret_bool (H.done (h.drop_end hlt) (h'.drop_end hlt)), hT⟩
  · have hne : ((n : Int) != (m : Int)) = true := by rw [bne_iff_ne]; omega
    have HL := Lib.hid (eqd_len h.len h'.len hnm)
    go_enter Try.func50, Try.ntmps50
    go_wp2_with fail
    go_ret
    exact ⟨ret_bool HL.out, Below.refl _ _⟩
theorem rAlgebra_any (cs ds : List Value) (x y : AlgebraM) (w : World) (h : shAlgebra.rd w cs x) (h' : shAlgebra.rd w ds y) :
    Calls Try.prog 22 #[.agg cs.toArray, .agg ds.toArray] w (Bl w (.bool (eqC x y))) := by
  obtain ⟨A, n, c, rfl, -, q⟩ := rdAlgebra h
  obtain ⟨A', n', c', rfl, -, q'⟩ := rdAlgebra h'
  obtain ⟨w0, hw0, T0, hsz0, BP, BQ⟩ := boxes2 w #[.int .i64 x.1, .slice A n c] #[.int .i64 y.1, .slice A' n' c'] 26 26
  replace q := q.next T0
  replace q' := q'.next T0
  have HD : Hid (eqC x y = (eqC x.1 y.1 && eqC x.2 y.2)) := by show _ = _; exact dec_pair ..
  have HW0 := Lib.hid hw0
  have cP0 := BP.cell 0
  have cP1 := BP.cell 1
  have cQ0 := BQ.cell 0
  have cQ1 := BQ.cell 1
  simp at cP0 cP1 cQ0 cQ1
  have HC := Lib.hid (rOps_any A A' n n' c c' x.2 y.2 w0 q q')
  clear hw0 hsz0
  go_enter Try.func22, Try.ntmps22
  go_upto_region 1 with fail
  rw [← HW0.out]
  rcases hd0 : eqC x.1 y.1 with _ | _
  · have ht : (x.1 == y.1) = false := by have := eqC_no.1 hd0; simpa using this
    have HH := Lib.hid hd0
    clear hd0
    go_wp2_with fail
    go_ret
    exact ⟨ret_bool (by rw [HD.out, HH.out]; rfl), T0⟩
  · have ht : (x.1 == y.1) = true := by have := eqC_iff.1 hd0; simpa using this
    have HH := Lib.hid hd0
    clear hd0
    go_wp2_with fail
    refine HC.out.mono ?_
    rintro e w1 ⟨rfl, hb1⟩
    go_wp2_with fail
    go_ret
    exact ⟨ret_bool (by rw [HD.out, HH.out]; simp), below_next T0 hb1 rfl⟩
def RU8 (_ : World) (v : Value) (x : Int) : Prop := v = .int .u8 x ∧ 0 ≤ x ∧ x < 256
theorem code_inB {w : World} {A : Option Addr} {n : Nat} {xs : List Int} (h : RdL RU8 w A n xs) (hn : n ≤ 65536) : CodeB w A n := by
  refine ⟨hn, fun h0 => ?_⟩
  obtain ⟨b, o, v, x, e, -⟩ := h.at h0
  subst e
  refine ⟨b, o, rfl, fun i hi => ?_⟩
  obtain ⟨v, x, hc, ⟨rfl, h1, h2⟩, -, -⟩ := h.at' hi
  exact ⟨x.toNat, by omega, by rw [hc, Int.toNat_of_nonneg h1]⟩
theorem rBig_any (A : Option Addr) (n c : Nat) (w : World) (hn : n ≤ 9223372036854775807) : Calls Try.prog 4 #[.slice A n c] w fun e w' => e = .returned (.bool (decide (65536 < n))) ∧ w = w' := by
  go_enter Try.func4, Try.ntmps4
  go_wp2
  go_ret
  exact ⟨ret_bool (decide_eq_decide.2 (by omega)), rfl⟩
/-- Being isomorphic, where the search does not fail, is having the same form. -/
theorem iso_hs {x y : AlgebraM} {hs st is ok : Bool} (hh : hsM x y = hs) (ho : hsOk x y = true) (hn : x.1 = y.1) (ht : eqL (tyL x.2) (tyL y.2) = st) (hst : st = true) (hi : isoB (isS x y) = is) (hk : decide ((isS x y).1 ≤ 5000) = ok) (hok : ok = true) : is = hs := by
  unfold hsOk at ho
  rw [Bool.and_eq_true] at ho
  subst hst hok
  have hx := small_iff.1 ho.1
  have hy := small_iff.1 ho.2
  have h := iso_law hx hy hn (eqL_iff.1 ht) (of_decide_eq_true hk)
  have e1 : is = decide (0 < (isS x y).2.length) := by rw [← hi]; unfold isoB; rw [hk]; rfl
  have e2 : hs = eqC (canA x) (canA y) := by rw [← hh]; unfold hsM; rw [ho.1, ho.2]; rfl
  rw [e1, e2]
  by_cases hc : canA x = canA y
  · rw [eqC_iff.2 hc]; exact decide_eq_true (h.2 hc)
  · rw [eqC_no.2 hc]; exact decide_eq_false fun q => hc (h.1 q)
theorem so_in {w : World} {x : AlgebraM} : ∀ q ∈ soM x, ∀ v ∈ q, RI w (.int .i64 v) v := fun q hq v hv => by
  unfold soM at hq
  rcases hb : smallB x with _ | _
  · rw [hb, if_neg (by decide)] at hq; cases hq
  · rw [hb, if_pos rfl] at hq
    have hsm := small_iff.1 hb
    have h1 := (ords_mem.1 (List.mem_filter.1 hq).1).2.1 v hv
    have h2 := hsm.1
    have h3 := hsm.2.1
    exact ⟨rfl, by omega, by omega⟩
theorem au_in {w : World} {x : AlgebraM} (hx : SmallP x) : ∀ q ∈ lhL (auS x), ∀ v ∈ q, RI w (.int .i64 v) v := fun q hq v hv => by
  unfold lhL at hq
  rcases hb : lhB (auS x) with _ | _
  · rw [hb, if_neg (by decide)] at hq; cases hq
  · rw [hb, if_pos rfl] at hq
    have h1 := ((find_spec (most := 301) (alk_of hx hx rfl rfl) (by decide)).1 q hq).1.2.1 v hv
    have h2 := hx.1
    have h3 := hx.2.1
    exact ⟨rfl, by omega, by omega⟩
/-- The copies times the symmetries are all lists of names. -/
theorem cc_law {x : AlgebraM} (hx : SmallP x) : ∃ cc : Nat, ccM x = (cc : Int) ∧ cc * (soM x).length = facN x.1.toNat ∧ (soM x).length ≤ 120 ∧ cc ≤ 120 := by
  have hb := small_iff.2 hx
  have h5 : x.1.toNat ≤ 5 := by have := hx.2.1; omega
  have h1 := copies hx
  rw [ords_fac h5] at h1
  have h2 := facN_le h5
  have e1 : soM x = symL x (ords x.1.toNat x.1.toNat []) := by unfold soM; rw [hb]; rfl
  have e2 : ccM x = ((ccL x (ords x.1.toNat x.1.toNat [])).length : Int) := by unfold ccM; rw [hb]; rfl
  have e3 : ((ords x.1.toNat x.1.toNat []).filter fun p => eqC (ren x p) x).length = (soM x).length := by rw [e1]; rfl
  rw [e3] at h1
  have l1 : (soM x).length ≤ 120 := by
    have := ords_fac h5
    have h4 := (List.filter_sublist (p := symF x) (l := ords x.1.toNat x.1.toNat [])).length_le
    rw [e1]; unfold symL; omega
  have l2 := ccL_len x (ords x.1.toNat x.1.toNat [])
  rw [ords_fac h5] at l2
  exact ⟨_, e2, h1.symm, l1, by omega⟩
theorem au_len {x : AlgebraM} (hx : SmallP x) (hb : lhB (auS x) = true) : (lhL (auS x)).length = (soM x).length ∧ ∀ q ∈ soM x, q ∈ lhL (auS x) := by
  have e1 : lhL (auS x) = (auS x).2 := by unfold lhL; rw [if_pos hb]
  have e2 : soM x = symL x (ords x.1.toNat x.1.toNat []) := by unfold soM; rw [small_iff.2 hx]; rfl
  unfold lhB at hb
  rw [Bool.and_eq_true] at hb
  rw [e1, e2]
  exact aut_law hx (of_decide_eq_true hb.1) (of_decide_eq_true hb.2)
theorem fac_R {n : Nat} (h : n ≤ 5) : facN n ≤ 120 := facN_le h
theorem il_sl {w : World} {v : Value} {L : List Int} (h : (Sh.il 3).rd w [v] L) : ∃ A n c, v = .slice A n c ∧ RdL RI w A n L := by
  obtain ⟨u, e, hu⟩ := h
  injection e with e _
  subst e
  exact hu
theorem lawCopies (A : Option Addr) (n c : Nat) (code : List Int) (w : World) (h : RdL RU8 w A n code) :
    Calls Try.prog 3 #[.slice A n c] w (Bl w (.bool true)) := by
  have hle := h.le
  by_cases hbig : 65536 < n
  · go_enter Try.func3, Try.ntmps3
    have hd : decide (65536 < n) = true := by simpa using hbig
    go_wp2_with fail
    refine (rBig_any A n c _ hle).mono ?_
    rintro e w' ⟨rfl, rfl⟩
    rw [hd]
    go_wp2_with fail
    go_ret
    exact ⟨rfl, Below.refl _ _⟩
  have hC := code_inB h (by omega)
  have HDb : Hid (decide (65536 < n) = false) := by show _ = _; simpa using hbig
  clear hbig
  go_enter Try.func3, Try.ntmps3
  go_wp2_with fail
  refine (rBig_any A n c _ hle).mono ?_
  rintro e w' ⟨rfl, rfl⟩
  rw [HDb.out]
  go_wp2_with fail
  refine (drawHF_any A n c _ hC).mono ?_
  rintro e w1 ⟨ds, x, es, y, rfl, hX, hY, T1⟩
  obtain ⟨AX, mX, cX, hdx, -, -⟩ := rdAlgebra hX
  subst hdx
  obtain ⟨AY, mY, cY, hdy, -, -⟩ := rdAlgebra hY
  subst hdy
  obtain ⟨w2, hw2, hb2, hs2, BX, BY⟩ := boxes2 w1 #[.int .i64 x.1, .slice AX mX cX] #[.int .i64 y.1, .slice AY mY cY] 26 26
  have HW2 := Lib.hid hw2
  obtain ⟨gY, HGY⟩ : ∃ z, Hid (w1.heap.size + 1 = z) := ⟨_, Lib.hid rfl⟩
  obtain ⟨gX, HGX⟩ : ∃ z, Hid (w1.heap.size = z) := ⟨_, Lib.hid rfl⟩
  clear hw2 hs2
  go_upto_region 4 with fail
  rw [← HW2.out]
  rw [HGY.out] at BY ⊢
  rw [HGX.out] at BX ⊢
  have HT2 := Lib.hid (below_next T1 hb2 rfl)
  have HKA : Hid (∀ wz, Below w2.heap.size w2 wz → shAlgebra.rd wz [.int .i64 x.1, .slice AX mX cX] x ∧ shAlgebra.rd wz [.int .i64 y.1, .slice AY mY cY] y ∧ Blk wz gX 26 #[.int .i64 x.1, .slice AX mX cX] ∧ Blk wz gY 26 #[.int .i64 y.1, .slice AY mY cY]) := fun wz hz => ⟨stab_same (stab_same hX hb2) hz, stab_same (stab_same hY hb2) hz, BX.next hz, BY.next hz⟩
  have U2 : Below w2.heap.size w2 w2 := Below.refl _ _
  clear hX hY T1 hb2 hC hle BX BY h HDb
  obtain ⟨hs, HHS⟩ : ∃ b, Hid (hsM x y = b) := ⟨_, Lib.hid rfl⟩
  obtain ⟨ho, HHO⟩ : ∃ b, Hid (hsOk x y = b) := ⟨_, Lib.hid rfl⟩
  obtain ⟨rX, rY, bX, bY⟩ := HKA.out w2 U2
  have cX0 := bX.cell 0
  have cX1 := bX.cell 1
  have cY0 := bY.cell 0
  have cY1 := bY.cell 1
  simp at cX0 cX1 cY0 cY1
  have HI := implHS_any _ _ x y w2 rX rY
  rw [HHS.out, HHO.out] at HI
  have HI := Lib.hid HI
  clear rX rY bX bY
  go_wp2_with fail
  refine HI.out.mono ?_
  rintro e w3 ⟨rfl, hb3⟩
  have U3 := below_next U2 hb3 rfl
  clear cX0 cX1 cY0 cY1 HI
  obtain ⟨rX, rY, bX, bY⟩ := HKA.out w3 U3
  have cX0 := bX.cell 0
  have cX1 := bX.cell 1
  have cY0 := bY.cell 0
  have cY1 := bY.cell 1
  simp at cX0 cX1 cY0 cY1
  have HI := specHS_any _ _ x y w3 rX rY
  rw [HHS.out, HHO.out] at HI
  have HI := Lib.hid HI
  clear rX rY bX bY
  go_wp2_with fail
  refine HI.out.mono ?_
  rintro e w4 ⟨rfl, hb4⟩
  have U4 := below_next U3 hb4 rfl
  clear cX0 cX1 cY0 cY1 HI
  have q1 : (hs != hs) = false := by cases hs <;> rfl
  have q2 : (ho != ho) = false := by cases ho <;> rfl
  obtain ⟨rX, rY, bX, bY⟩ := HKA.out w4 U4
  have cX0 := bX.cell 0
  have cX1 := bX.cell 1
  have cY0 := bY.cell 0
  have cY1 := bY.cell 1
  simp at cX0 cX1 cY0 cY1
  clear rX rY bX bY
  go_upto_region 8 with fail
  go_cut [72] from 65 to 71 (fun u72 wx => u72 = .bool (ho && decide (x.1 = y.1)) ∧ w4 = wx)
  case first =>
    rcases ho with _ | _
    · go_wp2_with fail
      go_meet
      exact ⟨rfl, rfl⟩
    · go_wp2_with fail
      go_meet
      exact ⟨by simp <;> rfl, rfl⟩
  case rest =>
    obtain ⟨rfl, rfl⟩ := hcut
    obtain ⟨qb, HQB⟩ : ∃ b, Hid ((ho && decide (x.1 = y.1)) = b) := ⟨_, Lib.hid rfl⟩
    rw [HQB.out]
    clear q1 q2 cX0 cX1 cY0 cY1
    go_upto_if 72 with fail
    go_cut [9, 10, 11, 12] from 73 to 94 (fun _ _ _ _ wx => Below w4.heap.size w4 wx)
    case first =>
      rcases qb with _ | _
      · go_wp2_with fail
        go_meet
        exact Below.refl _ _
      · have hq := HQB.out
        rw [Bool.and_eq_true] at hq
        have HXY : Hid (x.1 = y.1) := by show _ = _; exact of_decide_eq_true hq.2
        have HHO2 : Hid (hsOk x y = true) := by show _ = _; rw [HHO.out]; exact hq.1
        have hsp := HHO2.out
        unfold hsOk at hsp
        rw [Bool.and_eq_true] at hsp
        have HSX := Lib.hid (small_iff.1 hsp.1)
        have HSY := Lib.hid (small_iff.1 hsp.2)
        clear hq hsp
        obtain ⟨st, HST⟩ : ∃ b, Hid (eqL (tyL x.2) (tyL y.2) = b) := ⟨_, Lib.hid rfl⟩
        obtain ⟨rX, rY, bX, bY⟩ := HKA.out w4 U4
        have cX0 := bX.cell 0
        have cX1 := bX.cell 1
        have cY0 := bY.cell 0
        have cY1 := bY.cell 1
        simp at cX0 cX1 cY0 cY1
        have HI := sameType_any _ _ x y w4 rX rY HSX.out HSY.out
        rw [HST.out] at HI
        have HI := Lib.hid HI
        clear rX rY bX bY
        go_wp2_with fail
        refine HI.out.mono ?_
        rintro e w5 ⟨rfl, hb5⟩
        have U5 := below_next U4 hb5 rfl
        clear cX0 cX1 cY0 cY1 HI
        rcases st with _ | _
        · go_wp2_with fail
          go_meet
          exact hb5
        · have HISO : Hid (∀ is ok, isoB (isS x y) = is → decide ((isS x y).1 ≤ 5000) = ok → ok = true → is = hs) := fun is ok h1 h2 h3 => iso_hs HHS.out HHO2.out HXY.out HST.out rfl h1 h2 h3
          obtain ⟨is, HIS⟩ : ∃ b, Hid (isoB (isS x y) = b) := ⟨_, Lib.hid rfl⟩
          obtain ⟨ok, HOK⟩ : ∃ b, Hid (decide ((isS x y).1 ≤ 5000) = b) := ⟨_, Lib.hid rfl⟩
          obtain ⟨rX, rY, bX, bY⟩ := HKA.out w5 U5
          have cX0 := bX.cell 0
          have cX1 := bX.cell 1
          have cY0 := bY.cell 0
          have cY1 := bY.cell 1
          simp at cX0 cX1 cY0 cY1
          have HI := implIso_any _ _ x y w5 rX rY HSX.out HSY.out HXY.out HST.out
          rw [HIS.out, HOK.out] at HI
          have HI := Lib.hid HI
          clear rX rY bX bY
          go_wp2_with fail
          refine HI.out.mono ?_
          rintro e w6 ⟨rfl, hb6⟩
          have U6 := below_next U5 hb6 rfl
          clear cX0 cX1 cY0 cY1 HI
          have hbt := below_next hb5 hb6 rfl
          rcases ok with _ | _
          · go_wp2_with fail
            go_meet
            exact hbt
          · obtain rfl := HISO.out is true HIS.out HOK.out rfl
            have q3 : (is != is) = false := by cases is <;> rfl
            go_wp2_with fail
            go_meet
            exact hbt
    case rest =>
      obtain ⟨w5, HWC⟩ : ∃ wq : World, wq = wc := ⟨_, rfl⟩
      subst HWC
      have U5 := below_next U4 hcut rfl
      clear hcut HHS HHO HQB
      obtain ⟨sb, HSB⟩ : ∃ b, Hid (smallB x = b) := ⟨_, Lib.hid rfl⟩
      obtain ⟨SO, HSO⟩ : ∃ b, Hid (soM x = b) := ⟨_, Lib.hid rfl⟩
      have HSI : Hid (∀ wz : World, ∀ q ∈ SO, ∀ v ∈ q, RI wz (.int .i64 v) v) := fun wz => by rw [← HSO.out]; exact so_in
      obtain ⟨n1, HN1⟩ : ∃ b, Hid (SO.length = b) := ⟨_, Lib.hid rfl⟩
      obtain ⟨rX, rY, bX, bY⟩ := HKA.out w5 U5
      have cX0 := bX.cell 0
      have cX1 := bX.cell 1
      have cY0 := bY.cell 0
      have cY1 := bY.cell 1
      simp at cX0 cX1 cY0 cY1
      have HI := implSO_any _ x w5 rX
      rw [HSB.out, HSO.out] at HI
      have HI := Lib.hid HI
      clear rX rY bX bY
      go_wp2_with fail
      refine HI.out.mono ?_
      rintro e w6 ⟨A1, c1, vs1, rfl, hM, -, hb6⟩
      have U6 := below_next U5 hb6 rfl
      clear cX0 cX1 cY0 cY1 HI
      have R1 : RdL (RV RI) w6 A1 SO.length SO := hM.own.rd (R := RI) (HSI.out _)
      clear hM
      obtain ⟨rX, rY, bX, bY⟩ := HKA.out w6 U6
      have cX0 := bX.cell 0
      have cX1 := bX.cell 1
      have cY0 := bY.cell 0
      have cY1 := bY.cell 1
      simp at cX0 cX1 cY0 cY1
      have HI := specSO_any _ x w6 rX
      rw [HSB.out, HSO.out] at HI
      have HI := Lib.hid HI
      clear rX rY bX bY
      go_wp2_with fail
      refine HI.out.mono ?_
      rintro e w7 ⟨A2, c2, rfl, R2, hb7⟩
      have U7 := below_next U6 hb7 rfl
      clear cX0 cX1 cY0 cY1 HI
      replace R1 := R1.next stab_RVI hb7
      rw [HN1.out] at R1 R2 ⊢
      have q2 : (sb != sb) = false := by cases sb <;> rfl
      have HT := rTable_any A1 A2 n1 n1 c1 c2 SO SO w7 R1 R2
      rw [eqLL_self] at HT
      have HT := Lib.hid HT
      go_wp2_with fail
      refine HT.out.mono ?_
      rintro e w' ⟨rfl, z1, rfl⟩
      obtain ⟨w8, HWD⟩ : ∃ z, Hid (z = w7.drewN z1) := ⟨_, Lib.hid rfl⟩
      have hb8 : Below w7.heap.size w7 w8 := by rw [HWD.out]; exact below_drewN (Below.refl _ _) _
      rw [← HWD.out]
      have U8 := below_next U7 hb8 rfl
      clear HT HWD
      replace R1 := R1.next stab_RVI hb8
      clear hb8
      clear R2 q2
      rcases sb with _ | _
      · go_wp2_with fail
        go_ret
        exact ⟨rfl, below_next HT2.out U8 rfl⟩
      have HSM := Lib.hid (small_iff.1 HSB.out)
      obtain ⟨cc, hcc1, hcc2, hcc3, hcc4⟩ := cc_law HSM.out
      have HCC := Lib.hid hcc1
      rw [HSO.out, HN1.out] at hcc2 hcc3
      have HC2 := Lib.hid hcc2
      clear hcc1 hcc2
      obtain ⟨rX, rY, bX, bY⟩ := HKA.out w8 U8
      have cX0 := bX.cell 0
      have cX1 := bX.cell 1
      have cY0 := bY.cell 0
      have cY1 := bY.cell 1
      simp at cX0 cX1 cY0 cY1
      have HI := implCC_any _ x w8 rX
      rw [HSB.out, HCC.out] at HI
      have HI := Lib.hid HI
      clear rX rY bX bY
      go_wp2_with fail
      refine HI.out.mono ?_
      rintro e w9 ⟨rfl, hb9⟩
      have U9 := below_next U8 hb9 rfl
      clear cX0 cX1 cY0 cY1 HI
      obtain ⟨rX, rY, bX, bY⟩ := HKA.out w9 U9
      have cX0 := bX.cell 0
      have cX1 := bX.cell 1
      have cY0 := bY.cell 0
      have cY1 := bY.cell 1
      simp at cX0 cX1 cY0 cY1
      have HI := specCC_any _ x w9 rX
      rw [HSB.out, HCC.out] at HI
      have HI := Lib.hid HI
      clear rX rY bX bY
      go_wp2_with fail
      refine HI.out.mono ?_
      rintro e w10 ⟨rfl, hb10⟩
      have U10 := below_next U9 hb10 rfl
      clear cX0 cX1 cY0 cY1 HI
      have q1 : ((cc : Int) != (cc : Int)) = false := by simp
      have q2 : (true != true) = false := rfl
      obtain ⟨N, HXN⟩ : ∃ N : Nat, Hid (x.1 = (N : Int)) := ⟨x.1.toNat, by show _ = _; have h1 := HSM.out.1; omega⟩
      have HXT : Hid (x.1.toNat = N) := by show _ = _; have h1 := HXN.out; omega
      have hN1 : 1 ≤ N := by have h1 := HSM.out.1; have h2 := HXN.out; omega
      have hN5 : N ≤ 5 := by have h1 := HSM.out.2.1; have h2 := HXN.out; omega
      rw [HXT.out] at HC2
      replace R1 := R1.next stab_RVI (below_next hb9 hb10 rfl)
      obtain ⟨rX, rY, bX, bY⟩ := HKA.out w10 U10
      have cX0 := bX.cell 0
      have cX1 := bX.cell 1
      have cY0 := bY.cell 0
      have cY1 := bY.cell 1
      simp at cX0 cX1 cY0 cY1
      rw [HXN.out] at cX0
      clear rX rY bX bY
      go_wp2_with fail
      go_loopw [21, 22] (fun all i wr => ∃ k : Nat, 2 ≤ k ∧ (k ≤ N + 1 ∨ k = 2) ∧ i = .int .i64 k ∧ all = .int .i64 ((facN (k - 1) : Nat) : Int) ∧ Below w10.heap.size w10 wr) (fun _ i _ => 7 - (intOf i).toNat)
      case atStart => exact ⟨2, by omega, .inr rfl, rfl, rfl, Below.refl _ _⟩
      case round =>
        clear cX0 cX1 cY0 cY1 q1 q2
        obtain ⟨k, hk2, hkN, rfl, rfl, hT⟩ := hrel
        obtain ⟨wq, HWQ⟩ : ∃ z, Hid (z = wr) := ⟨_, Lib.hid rfl⟩
        rw [← HWQ.out] at hT
        rw [← HWQ.out]
        obtain ⟨rX, rY, bX, bY⟩ := HKA.out wq (below_next U10 hT rfl)
        have cX0 := bX.cell 0
        simp at cX0
        rw [HXN.out] at cX0
        clear rX rY bX bY HWQ
        by_cases hlt : k ≤ N
        · have hk1 : (k : Int) ≤ (N : Int) := by omega
          obtain ⟨j, rfl⟩ : ∃ j, k = j + 1 := ⟨k - 1, by omega⟩
          have hf1 : facN j ≤ 120 := fac_R (by omega)
          have hf2 : facN (j + 1) ≤ 120 := fac_R (by omega)
          have hfe : facN (j + 1) = facN j * (j + 1) := rfl
          obtain ⟨f, HF⟩ : ∃ f, Hid (facN j = f) := ⟨_, Lib.hid rfl⟩
          obtain ⟨f', HF'⟩ : ∃ f, Hid (facN (j + 1) = f) := ⟨_, Lib.hid rfl⟩
          simp only [Nat.add_sub_cancel]
          rw [HF.out] at hf1 hfe ⊢
          rw [HF'.out] at hf2 hfe
          have hm : (f : Int) * ((j : Int) + 1) = (f' : Int) := by rw [hfe]; push_cast; rfl
          have HW1 : IntKind.i64.wrap (f' : Int) = (f' : Int) := by rw [IntKind.wrap_i64]; omega
          have hj6 : j ≤ 5 := by omega
          clear hfe
          go_wp2_with fail
          go_roundw
          case rel => exact ⟨j + 2, by omega, by omega, by go_num, by rw [show j + 2 - 1 = j + 1 from rfl, HF'.out] <;> ((try push_cast); rw [hm]), hT⟩
          case measure => simp [intOf]; try omega
        · have hk1 : ¬ (k : Int) ≤ (N : Int) := by omega
          have HFK : Hid (facN (k - 1) = facN N) := by
            show _ = _
            rcases hkN with e | e
            · rw [show k - 1 = N by omega]
            · rw [show k - 1 = N by omega]
          rw [HFK.out]
          obtain ⟨fN, HFN⟩ : ∃ f, Hid (facN N = f) := ⟨_, Lib.hid rfl⟩
          rw [HFN.out] at HC2 ⊢
          have hfN : fN ≤ 120 := by rw [← HFN.out]; exact fac_R hN5
          have hm : (cc : Int) * (n1 : Int) = (fN : Int) := by rw [← HC2.out]; push_cast; rfl
          have HW1 : IntKind.i64.wrap (fN : Int) = (fN : Int) := by rw [IntKind.wrap_i64]; omega
          have q1 : ((fN : Int) != (fN : Int)) = false := by simp
          have U11 := below_next U10 hT rfl
          replace R1 := R1.next stab_RVI hT
          obtain ⟨w11, HWE⟩ : ∃ z : World, z = wq := ⟨_, rfl⟩
          subst HWE
          go_upto_region 31 with fail
          clear hT hk2 hkN hlt hk1 cX0 hm HW1 q1
          obtain ⟨ab, HAB⟩ : ∃ b, Hid (lhB (auS x) = b) := ⟨_, Lib.hid rfl⟩
          obtain ⟨AU, HAU⟩ : ∃ b, Hid (lhL (auS x) = b) := ⟨_, Lib.hid rfl⟩
          have HAI : Hid (∀ wz : World, ∀ q ∈ AU, ∀ v ∈ q, RI wz (.int .i64 v) v) := fun wz => by rw [← HAU.out]; exact au_in HSM.out
          obtain ⟨n3, HN3⟩ : ∃ b, Hid (AU.length = b) := ⟨_, Lib.hid rfl⟩
          have HAL : Hid (ab = true → n3 = n1 ∧ ∀ q ∈ SO, q ∈ AU) := fun e => by
            have h1 := au_len HSM.out (HAB.out.trans e)
            rw [HAU.out, HSO.out, HN3.out, HN1.out] at h1
            exact h1
          obtain ⟨rX, rY, bX, bY⟩ := HKA.out w11 U11
          have cX0 := bX.cell 0
          have cX1 := bX.cell 1
          have cY0 := bY.cell 0
          have cY1 := bY.cell 1
          simp at cX0 cX1 cY0 cY1
          have HI := implAu_any _ x w11 rX HSM.out
          rw [HAB.out, HAU.out] at HI
          have HI := Lib.hid HI
          clear rX rY bX bY
          go_wp2_with fail
          refine HI.out.mono ?_
          rintro e w12 ⟨A3, c3, vs3, rfl, hM, -, hb12⟩
          have U12 := below_next U11 hb12 rfl
          clear cX0 cX1 cY0 cY1 HI
          have R3 : RdL (RV RI) w12 A3 AU.length AU := hM.own.rd (R := RI) (HAI.out _)
          clear hM
          obtain ⟨rX, rY, bX, bY⟩ := HKA.out w12 U12
          have cX0 := bX.cell 0
          have cX1 := bX.cell 1
          have cY0 := bY.cell 0
          have cY1 := bY.cell 1
          simp at cX0 cX1 cY0 cY1
          have HI := specAu_any _ x w12 rX HSM.out
          rw [HAB.out, HAU.out] at HI
          have HI := Lib.hid HI
          clear rX rY bX bY
          go_wp2_with fail
          refine HI.out.mono ?_
          rintro e w13 ⟨A4, c4, rfl, R4, hb13⟩
          have U13 := below_next U12 hb13 rfl
          clear cX0 cX1 cY0 cY1 HI
          replace R3 := R3.next stab_RVI hb13
          replace R1 := R1.next stab_RVI (below_next hb12 hb13 rfl)
          rw [HN3.out] at R3 R4 ⊢
          have q2 : (ab != ab) = false := by cases ab <;> rfl
          have HTB := rTable_any A3 A4 n3 n3 c3 c4 AU AU w13 R3 R4
          rw [eqLL_self] at HTB
          have HTB := Lib.hid HTB
          go_upto_region 33 with fail
          go_cut [181] from 163 to 180 (fun u181 wx => u181 = .bool false ∧ Below w13.heap.size w13 wx)
          case first =>
            go_wp2_with fail
            refine HTB.out.mono ?_
            rintro e w' ⟨rfl, z1, rfl⟩
            have hbd := below_drewN (Below.refl w13.heap.size w13) z1
            rcases ab with _ | _
            · go_wp2_with fail
              go_meet
              exact ⟨rfl, hbd⟩
            · have q3 : ((n3 : Int) != (n1 : Int)) = false := by rw [(HAL.out rfl).1]; simp
              go_wp2_with fail
              go_meet
              exact ⟨rfl, hbd⟩
          case rest =>
            obtain ⟨rfl, hb14⟩ := hcut
            obtain ⟨w14, HWC⟩ : ∃ wq : World, wq = wc := ⟨_, rfl⟩
            subst HWC
            have U14 := below_next U13 hb14 rfl
            replace R1 := R1.next stab_RVI hb14
            replace R3 := R3.next stab_RVI hb14
            clear R4 HTB hb14 q2
            have hn1 : n1 ≤ 120 := hcc3
            go_wp2_with fail
            go_loopw [27] (fun i wr => ∃ q : Nat, q ≤ n1 ∧ i = .int .i64 q ∧ Below w14.heap.size w14 wr) (fun i _ => n1 - (intOf i).toNat)
            case atStart => exact ⟨0, Nat.zero_le _, rfl, Below.refl _ _⟩
            case round =>
              obtain ⟨q, hq, rfl, hT⟩ := hrel
              by_cases hlt : q < n1
              · have hq0 : (0 : Int) ≤ (q : Int) := by omega
                have hq1 : (q : Int) < (n1 : Int) := by omega
                obtain ⟨b1, o1, v1, VV, rfl, hc1, ⟨B1, m1, d1, rfl, hVr⟩, -, hVx⟩ := (R1.next stab_RVI hT).at hlt
                have hVR := R3.next stab_RVI hT
                have HPL := Lib.hid (rPlace_any A3 B1 n3 m1 c3 d1 AU VV wr hVR hVr)
                have HPP : Hid (ab = true → ¬ place AU VV < 0) := fun e h0 => by have := place_mem.2 ((HAL.out e).2 VV (List.mem_of_getElem? hVx)); omega
                obtain ⟨pl, HPV⟩ : ∃ z, Hid (place AU VV = z) := ⟨_, Lib.hid rfl⟩
                rw [HPV.out] at HPL HPP
                obtain ⟨wq, HWQ⟩ : ∃ z, Hid (z = wr) := ⟨_, Lib.hid rfl⟩
                rw [← HWQ.out] at hT hc1 HPL
                rw [← HWQ.out]
                clear hVx hVR hVr HWQ
                rcases ab with _ | _
                · go_wp2_with fail
                  go_roundw
                  case rel => exact ⟨q + 1, by omega, by go_num, hT⟩
                  case measure => simp [intOf]; try omega
                · have hpl := HPP.out rfl
                  go_wp2_with fail
                  refine HPL.out.mono ?_
                  rintro e w' ⟨rfl, z1, rfl⟩
                  have hbd := below_next hT (below_drewN (Below.refl wq.heap.size wq) z1) rfl
                  go_wp2_with fail
                  go_roundw
                  case rel => exact ⟨q + 1, by omega, by go_num, hbd⟩
                  case measure => simp [intOf]; try omega
              · have hq1 : ¬ (q : Int) < (n1 : Int) := by omega
                have U15 := below_next U14 hT rfl
                obtain ⟨w15, HWE⟩ : ∃ z : World, z = wr := ⟨_, rfl⟩
                subst HWE
                clear hT R1 R3 hlt HAL HAI
                obtain ⟨cz, HCZ⟩ : ∃ z, Hid (canA x = z) := ⟨_, Lib.hid rfl⟩
                have HZM : Hid (cfM x = cz) := by show _ = _; unfold cfM; rw [HSB.out, if_pos rfl]; exact HCZ.out
                have HZS : Hid (SmallP cz) := by show SmallP _; rw [← HCZ.out]; exact canA_small HSM.out
                have HZB : Hid (smallB cz = true) := small_iff.2 HZS.out
                have HZ2 : Hid (cfM cz = cz) := by show _ = _; unfold cfM; rw [HZB.out, if_pos rfl, ← HCZ.out]; exact canA_idem HSM.out
                have HCN : Hid (cnM x = canN x) := by show _ = _; unfold cnM; rw [HSB.out]; rfl
                have HRB : Hid (reB x (canN x) = true) := by show _ = _; unfold reB; rw [small_algB HSM.out]; exact tt_iff.2 (canN_ok (x := x)).2
                have HRM : Hid (reM x (canN x) = cz) := by show _ = _; unfold reM; rw [HRB.out, if_pos rfl]; exact HCZ.out
                obtain ⟨rX, rY, bX, bY⟩ := HKA.out w15 U15
                have cX0 := bX.cell 0
                have cX1 := bX.cell 1
                simp at cX0 cX1
                have HI := implCF_any _ x w15 rX
                rw [HZM.out, HSB.out] at HI
                have HI := Lib.hid HI
                clear rX rY bX bY
                go_wp2_with fail
                refine HI.out.mono ?_
                rintro e w16 ⟨cs1, bl1, rfl, hO, -, hb16⟩
                have U16 := below_next U15 hb16 rfl
                clear cX0 cX1 HI
                obtain ⟨AZ, mZ, cZ, hdz, -, -⟩ := rdAlgebra (shAlgebra.ord hO)
                subst hdz
                obtain ⟨w17, HWB⟩ : ∃ wb, Hid (wb = w16.alloc (.cells #[.int .i64 cz.1, .slice AZ mZ cZ] 26)) := ⟨_, Lib.hid rfl⟩
                have hb17 : Below w16.heap.size w16 w17 := by rw [HWB.out]; exact below_box _ _
                have BZ : Blk w17 w16.heap.size 26 #[.int .i64 cz.1, .slice AZ mZ cZ] := by rw [HWB.out]; exact Blk.new _ _ _
                obtain ⟨gZ, HGZ⟩ : ∃ x, Hid (w16.heap.size = x) := ⟨_, Lib.hid rfl⟩
                go_upto_region 41 with fail
                rw [← HWB.out]
                rw [HGZ.out] at BZ ⊢
                have U17 := below_next U16 hb17 rfl
                have HKZ : Hid (∀ wz, Below w17.heap.size w17 wz → shAlgebra.rd wz [.int .i64 cz.1, .slice AZ mZ cZ] cz ∧ Blk wz gZ 26 #[.int .i64 cz.1, .slice AZ mZ cZ]) := fun wz hz => ⟨stab_same (stab_same (shAlgebra.ord hO) hb17) hz, BZ.next hz⟩
                have VZ17 : Below w17.heap.size w17 w17 := Below.refl _ _
                clear hO BZ HWB
                obtain ⟨rX, rY, bX, bY⟩ := HKA.out w17 U17
                have cX0 := bX.cell 0
                have cX1 := bX.cell 1
                simp at cX0 cX1
                have HI := implCN_any _ x w17 rX
                rw [HCN.out, HSB.out] at HI
                have HI := Lib.hid HI
                clear rX rY bX bY
                go_wp2_with fail
                refine HI.out.mono ?_
                rintro e w18 ⟨v1, bl1, rfl, hOn, -, hb18⟩
                have U18 := below_next U17 hb18 rfl
                clear cX0 cX1 HI
                have VZ18 := below_next VZ17 hb18 rfl
                obtain ⟨AN, kN, cN, rfl, RN⟩ := il_sl ((Sh.il 3).ord hOn)
                clear hOn
                obtain ⟨rX, rY, bX, bY⟩ := HKA.out w18 U18
                have cX0 := bX.cell 0
                have cX1 := bX.cell 1
                simp at cX0 cX1
                have HI := implRE_any _ x AN kN cN (canN x) w18 rX RN
                rw [HRM.out, HRB.out] at HI
                have HI := Lib.hid HI
                clear rX rY bX bY
                go_wp2_with fail
                refine HI.out.mono ?_
                rintro e w19 ⟨cs1, bl1, rfl, hO, -, hb19⟩
                have U19 := below_next U18 hb19 rfl
                clear cX0 cX1 HI
                have VZ19 := below_next VZ18 hb19 rfl
                clear RN
                obtain ⟨AE, mE, cE, hdz, -, -⟩ := rdAlgebra (shAlgebra.ord hO)
                subst hdz
                obtain ⟨w20, HWB⟩ : ∃ wb, Hid (wb = w19.alloc (.cells #[.int .i64 cz.1, .slice AE mE cE] 26)) := ⟨_, Lib.hid rfl⟩
                have hb20 : Below w19.heap.size w19 w20 := by rw [HWB.out]; exact below_box _ _
                have BZ : Blk w20 w19.heap.size 26 #[.int .i64 cz.1, .slice AE mE cE] := by rw [HWB.out]; exact Blk.new _ _ _
                obtain ⟨gE, HGE⟩ : ∃ x, Hid (w19.heap.size = x) := ⟨_, Lib.hid rfl⟩
                go_upto_region 43 with fail
                rw [← HWB.out]
                rw [HGE.out] at BZ ⊢
                have U20 := below_next U19 hb20 rfl
                have HKE : Hid (∀ wz, Below w20.heap.size w20 wz → shAlgebra.rd wz [.int .i64 cz.1, .slice AE mE cE] cz ∧ Blk wz gE 26 #[.int .i64 cz.1, .slice AE mE cE]) := fun wz hz => ⟨stab_same (stab_same (shAlgebra.ord hO) hb20) hz, BZ.next hz⟩
                have VE20 : Below w20.heap.size w20 w20 := Below.refl _ _
                clear hO BZ HWB
                have VZ20 := below_next VZ19 hb20 rfl
                obtain ⟨rZ, bZ⟩ := HKZ.out w20 VZ20
                have cX0 := bZ.cell 0
                have cX1 := bZ.cell 1
                simp at cX0 cX1
                have HI := implCF_any _ cz w20 rZ
                rw [HZ2.out, HZB.out] at HI
                have HI := Lib.hid HI
                clear rZ bZ
                go_wp2_with fail
                refine HI.out.mono ?_
                rintro e w21 ⟨cs1, bl1, rfl, hO, -, hb21⟩
                have U21 := below_next U20 hb21 rfl
                clear cX0 cX1 HI
                have VZ21 := below_next VZ20 hb21 rfl
                have VE21 := below_next VE20 hb21 rfl
                obtain ⟨AF, mF, cF, hdz, -, -⟩ := rdAlgebra (shAlgebra.ord hO)
                subst hdz
                obtain ⟨w22, HWB⟩ : ∃ wb, Hid (wb = w21.alloc (.cells #[.int .i64 cz.1, .slice AF mF cF] 26)) := ⟨_, Lib.hid rfl⟩
                have hb22 : Below w21.heap.size w21 w22 := by rw [HWB.out]; exact below_box _ _
                have BZ : Blk w22 w21.heap.size 26 #[.int .i64 cz.1, .slice AF mF cF] := by rw [HWB.out]; exact Blk.new _ _ _
                obtain ⟨gF, HGF⟩ : ∃ x, Hid (w21.heap.size = x) := ⟨_, Lib.hid rfl⟩
                go_upto_region 44 with fail
                rw [← HWB.out]
                rw [HGF.out] at BZ ⊢
                have U22 := below_next U21 hb22 rfl
                have HKF : Hid (∀ wz, Below w22.heap.size w22 wz → shAlgebra.rd wz [.int .i64 cz.1, .slice AF mF cF] cz ∧ Blk wz gF 26 #[.int .i64 cz.1, .slice AF mF cF]) := fun wz hz => ⟨stab_same (stab_same (shAlgebra.ord hO) hb22) hz, BZ.next hz⟩
                have VF22 : Below w22.heap.size w22 w22 := Below.refl _ _
                clear hO BZ HWB
                have VZ22 := below_next VZ21 hb22 rfl
                have VE22 := below_next VE21 hb22 rfl
                obtain ⟨rX, rY, bX, bY⟩ := HKA.out w22 U22
                have cX0 := bX.cell 0
                have cX1 := bX.cell 1
                simp at cX0 cX1
                have HI := specCF_any _ x w22 rX
                rw [HZM.out, HSB.out] at HI
                have HI := Lib.hid HI
                clear rX rY bX bY
                go_wp2_with fail
                refine HI.out.mono ?_
                rintro e w23 ⟨cs1, rfl, hR, hb23⟩
                have U23 := below_next U22 hb23 rfl
                clear cX0 cX1 HI
                have VZ23 := below_next VZ22 hb23 rfl
                have VE23 := below_next VE22 hb23 rfl
                have VF23 := below_next VF22 hb23 rfl
                obtain ⟨AG, mG, cG, hdz, -, -⟩ := rdAlgebra hR
                subst hdz
                obtain ⟨w24, HWB⟩ : ∃ wb, Hid (wb = w23.alloc (.cells #[.int .i64 cz.1, .slice AG mG cG] 26)) := ⟨_, Lib.hid rfl⟩
                have hb24 : Below w23.heap.size w23 w24 := by rw [HWB.out]; exact below_box _ _
                have BZ : Blk w24 w23.heap.size 26 #[.int .i64 cz.1, .slice AG mG cG] := by rw [HWB.out]; exact Blk.new _ _ _
                obtain ⟨gG, HGG⟩ : ∃ x, Hid (w23.heap.size = x) := ⟨_, Lib.hid rfl⟩
                go_upto_region 45 with fail
                rw [← HWB.out]
                rw [HGG.out] at BZ ⊢
                have U24 := below_next U23 hb24 rfl
                have rG := stab_same hR hb24
                have VZ24 := below_next VZ23 hb24 rfl
                have VE24 := below_next VE23 hb24 rfl
                have VF24 := below_next VF23 hb24 rfl
                obtain ⟨rZ, bZ⟩ := HKZ.out w24 VZ24
                have cP0 := bZ.cell 0
                have cP1 := bZ.cell 1
                have cQ0 := BZ.cell 0
                have cQ1 := BZ.cell 1
                simp at cP0 cP1 cQ0 cQ1
                have HI := rAlgebra_any _ _ cz cz w24 rZ rG
                rw [eqC_self] at HI
                have HI := Lib.hid HI
                clear rZ bZ rG BZ hR
                go_wp2_with fail
                refine HI.out.mono ?_
                rintro e w25 ⟨rfl, hb25⟩
                have U25 := below_next U24 hb25 rfl
                clear cP0 cP1 cQ0 cQ1 HI
                have VZ25 := below_next VZ24 hb25 rfl
                have VE25 := below_next VE24 hb25 rfl
                have VF25 := below_next VF24 hb25 rfl
                obtain ⟨rcP, bcP⟩ := HKE.out w25 VE25
                have cP0 := bcP.cell 0
                have cP1 := bcP.cell 1
                obtain ⟨rcQ, bcQ⟩ := HKZ.out w25 VZ25
                have cQ0 := bcQ.cell 0
                have cQ1 := bcQ.cell 1
                simp at cP0 cP1 cQ0 cQ1
                have HI := rAlgebra_any _ _ cz cz w25 rcP rcQ
                rw [eqC_self] at HI
                have HI := Lib.hid HI
                clear rcP rcQ bcP bcQ
                go_wp2_with fail
                refine HI.out.mono ?_
                rintro e w26 ⟨rfl, hb26⟩
                have U26 := below_next U25 hb26 rfl
                clear cP0 cP1 cQ0 cQ1 HI
                have VZ26 := below_next VZ25 hb26 rfl
                have VE26 := below_next VE25 hb26 rfl
                have VF26 := below_next VF25 hb26 rfl
                obtain ⟨rcP, bcP⟩ := HKF.out w26 VF26
                have cP0 := bcP.cell 0
                have cP1 := bcP.cell 1
                obtain ⟨rcQ, bcQ⟩ := HKZ.out w26 VZ26
                have cQ0 := bcQ.cell 0
                have cQ1 := bcQ.cell 1
                simp at cP0 cP1 cQ0 cQ1
                have HI := rAlgebra_any _ _ cz cz w26 rcP rcQ
                rw [eqC_self] at HI
                have HI := Lib.hid HI
                clear rcP rcQ bcP bcQ
                go_wp2_with fail
                refine HI.out.mono ?_
                rintro e w27 ⟨rfl, hb27⟩
                have U27 := below_next U26 hb27 rfl
                clear cP0 cP1 cQ0 cQ1 HI
                go_wp2_with fail
                go_ret
                exact ⟨rfl, below_next HT2.out U27 rfl⟩
end Go.Proofs.Ytbkgbckbbnflpaa
