
/- Walks: NameOf of the program and of the reference. -/
import Derived.Test.YtppnmpeicmlneaaCat3
namespace Go.Proofs.Ytppnmpeicmlneaa
open Go.RowKit

/-- The canonical form handed back, as it reads. -/
def FormR (x : AlgebraM) (w : World) (V : Option Addr) (L vc : Nat) (w' : World) : Prop := shAlgebra.rd w' [.int .i64 (canA x).1, .slice V L vc] (canA x) ∧ Below w.heap.size w w'
theorem canonR {cs : List Value} {x : AlgebraM} {w : World} (h : shAlgebra.rd w cs x) (hx : SmallP x) :
    Calls Try.prog 93 #[.agg cs.toArray] w (fun e w' => ∃ V L vc u, e = .returned (.tuple #[.agg #[.int .i64 (canA x).1, .slice V L vc], u]) ∧ FormR x w V L vc w') := by
  obtain ⟨n, hn⟩ : ∃ n : Nat, x.1 = (n : Int) := ⟨x.1.toNat, by have h1 := hx.1; omega⟩
  refine (canonical_any cs x n w h hx hn).mono ?_
  rintro e w' ⟨vb, css, bls, Af, cf, rfl, hP, -, hb⟩
  obtain ⟨V, vc, rfl⟩ := own_slice hP.2.1
  have e1 : (canA x).1 = (n : Int) := by rw [← hn]; rfl
  refine ⟨V, (canA x).2.length, vc, _, by rw [e1], ?_, hb⟩
  exact hP.alg (show InR (canA x).1 from small_R (canA_small hx))
theorem formR {cs : List Value} {x : AlgebraM} {w : World} (h : shAlgebra.rd w cs x) (hx : SmallP x) :
    Calls Try.prog 81 #[.agg cs.toArray] w (fun e w' => ∃ V L vc, e = .returned (.agg #[.int .i64 (canA x).1, .slice V L vc]) ∧ FormR x w V L vc w') := by
  refine (l31Form_any cs x w h hx).mono ?_
  rintro e w' ⟨v, css, bls, rfl, hP, hb⟩
  obtain ⟨V, vc, rfl⟩ := own_slice hP.2.1
  exact ⟨V, (canA x).2.length, vc, rfl, hP.alg (show InR (canA x).1 from small_R (canA_small hx)), hb⟩

noncomputable def findN (y : AlgebraM) : List EntryM → ByteArray × Bool
  | [] => (⟨#[]⟩, false)
  | e :: l => if eqC e.2 y then (e.1, true) else findN y l
noncomputable def noP (xs : List EntryM) (x : AlgebraM) : ByteArray × Bool := if catB xs && smallB x then findN (canA x) xs else (⟨#[]⟩, false)
def FAt (y : AlgebraM) (xs : List EntryM) (k : Nat) : Prop := findN y (xs.drop k) = findN y xs
theorem FAt.step {y : AlgebraM} {xs : List EntryM} {k : Nat} {e : EntryM} (h : FAt y xs k) (hd : xs.drop k = e :: xs.drop (k + 1)) (hn : eqC e.2 y = false) : FAt y xs (k + 1) := by
  unfold FAt at *
  rw [hd, findN, hn, if_neg (by decide)] at h
  exact h
theorem FAt.stop {y : AlgebraM} {xs : List EntryM} {k : Nat} {e : EntryM} (h : FAt y xs k) (hd : xs.drop k = e :: xs.drop (k + 1)) (hn : eqC e.2 y = true) : findN y xs = (e.1, true) := by
  unfold FAt at *
  rw [hd, findN, hn, if_pos rfl] at h
  exact h.symm
theorem FAt.done {y : AlgebraM} {xs : List EntryM} {k : Nat} (h : FAt y xs k) (hk : ¬ k < xs.length) : findN y xs = (⟨#[]⟩, false) := by
  unfold FAt at *
  rw [List.drop_eq_nil_of_le (by omega), findN] at h
  exact h.symm
theorem catF_small {e : EntryM} : ∀ {pre l : List EntryM}, catF pre l = true → e ∈ l → SmallP e.2
  | pre, f :: l, h, he => by
    rw [catF, Bool.and_eq_true] at h
    rcases List.mem_cons.1 he with rfl | he
    · have := h.1
      unfold okE at this
      simp only [Bool.and_eq_true] at this
      exact small_iff.1 this.2.2.1
    · exact catF_small h.2 he
theorem cat_small {xs : List EntryM} (h : catB xs = true) {e : EntryM} (he : e ∈ xs) : SmallP e.2 := by
  unfold catB at h
  rw [Bool.and_eq_true] at h
  exact catF_small h.2 he

set_option maxRecDepth 100000 in
set_option maxHeartbeats 8000000 in
theorem implNameOf_any (A : Option Addr) (n c : Nat) (xs : List EntryM) (ds : List Value) (y : AlgebraM) (w : World) (h : RdN shEntry.m shEntry.rd w A n xs) (h' : shAlgebra.rd w ds y) :
    Calls Try.prog 58 #[.slice A n c, .agg ds.toArray] w (Bl w (.tuple #[.string (noP xs y).1, .bool (noP xs y).2])) := by
  have hrd' := h'
  obtain rfl : xs.length = n := h.len
  have hle := h.le
  obtain ⟨D, m, d, rfl, qs', qo'⟩ := rdAlgebra h'
  obtain ⟨w0, hw0, T0, hsz0, BP⟩ := boxes1 w #[.int .i64 y.1, .slice D m d] 41
  have HW0 := Lib.hid hw0
  clear hw0 hsz0 h' qs' qo'
  obtain ⟨r1, HR1⟩ : ∃ r, Hid (catB xs = r) := ⟨_, rfl⟩
  obtain ⟨r2, HR2⟩ : ∃ r, Hid (smallB y = r) := ⟨_, rfl⟩
  have HM : Hid (noP xs y = if r1 && r2 then findN (canA y) xs else (⟨#[]⟩, false)) := by show _ = _; unfold noP; rw [HR1.out, HR2.out]
  rw [HM.out]
  clear HM
  rcases r1 with _ | _
  · go_enter Try.func58, Try.ntmps58
    go_wp2_with fail
    rw [← HW0.out]
    refine (isCat_any _ _ _ xs _ (h.next T0)).mono ?_
    rintro e w1 ⟨rfl, hb1⟩
    rw [HR1.out]
    have T1 := below_next T0 hb1 rfl
    go_wp2_with fail
    go_ret2
    exact ⟨rfl, T1⟩
  · rcases r2 with _ | _
    · go_enter Try.func58, Try.ntmps58
      go_wp2_with fail
      rw [← HW0.out]
      refine (isCat_any _ _ _ xs _ (h.next T0)).mono ?_
      rintro e w1 ⟨rfl, hb1⟩
      rw [HR1.out]
      have T1 := below_next T0 hb1 rfl
      replace BP := BP.next hb1
      have cP0 := BP.cell 0
      have cP1 := BP.cell 1
      simp at cP0 cP1
      go_wp2_with fail
      refine (isNamed_any _ y _ (shAlgebra.stab hrd' T1.block)).mono ?_
      rintro e w2 ⟨rfl, hb2⟩
      rw [HR2.out]
      have T2 := below_next T1 hb2 rfl
      go_wp2_with fail
      go_ret2
      exact ⟨rfl, T2⟩
    · rw [show (true && true) = true from rfl, if_pos rfl]
      have hsy := small_iff.1 HR2.out
      have HSM : Hid (∀ e ∈ xs, SmallP e.2) := fun e he => cat_small HR1.out he
      obtain ⟨z, HZ⟩ : ∃ z, Hid (canA y = z) := ⟨_, rfl⟩
      rw [HZ.out]
      go_enter Try.func58, Try.ntmps58
      go_wp2_with fail
      rw [← HW0.out]
      refine (isCat_any _ _ _ xs _ (h.next T0)).mono ?_
      rintro e w1 ⟨rfl, hb1⟩
      rw [HR1.out]
      have T1 := below_next T0 hb1 rfl
      replace BP := BP.next hb1
      have cP0 := BP.cell 0
      have cP1 := BP.cell 1
      simp at cP0 cP1
      go_wp2_with fail
      refine (isNamed_any _ y _ (shAlgebra.stab hrd' T1.block)).mono ?_
      rintro e w2 ⟨rfl, hb2⟩
      rw [HR2.out]
      have T2 := below_next T1 hb2 rfl
      replace BP := BP.next hb2
      clear cP0 cP1
      have cP0 := BP.cell 0
      have cP1 := BP.cell 1
      simp at cP0 cP1
      go_wp2_with fail
      refine (canonR (shAlgebra.stab hrd' T2.block) hsy).mono ?_
      rintro e w3 ⟨V, L, vc, uu, rfl, hF, hb3⟩
      rw [HZ.out] at hF ⊢
      have T3 := below_next T2 hb3 rfl
      obtain ⟨w4, hw4, T4', -, BX⟩ := boxes1 w3 #[.int .i64 z.1, .slice V L vc] 41
      have HW4 := Lib.hid hw4
      have T4 := below_next T3 T4' rfl
      have hF4 := shAlgebra.stab hF T4'.block
      have hz34 := T3.size
      have hz4 := BX.lt
      clear hw4 cP0 cP1 BP hF
      go_wp2_with fail
      rw [← HW4.out]
      go_loopw [25] (fun i wr => ∃ k : Nat, k ≤ xs.length ∧ i = .int .i64 k ∧ FAt z xs k ∧ Below w4.heap.size w4 wr) (fun i _ => xs.length - (intOf i).toNat)
      case atStart => exact ⟨0, Nat.zero_le _, rfl, rfl, Below.refl _ _⟩
      case round =>
        obtain ⟨k, hk, rfl, H, hTr⟩ := hrel
        have hTw := below_next T4 hTr rfl
        by_cases hlt : k < xs.length
        · obtain ⟨b, o, vs, e, hA, -, hc, hr, hd, hxe⟩ := h.at hlt
          obtain ⟨Bm, mm, dm, rfl, hsz, hIn, hops⟩ := rdEntry hr
          have cc0 : wr.cell? ⟨b, o + k * 3, none⟩ = some (.string e.1) := keepc hTw (hc 0 _ rfl)
          have cc1 : wr.cell? ⟨b, o + k * 3 + 1, none⟩ = some (.int .i64 e.2.1) := keepc hTw (hc 1 _ rfl)
          have cc2 : wr.cell? ⟨b, o + k * 3 + 2, none⟩ = some (.slice Bm mm dm) := keepc hTw (hc 2 _ rfl)
          have hral := mkAlgebra (cOps := dm) hIn hops
          have hse := HSM.out e (List.mem_of_getElem? hxe)
          have HH := Lib.hid H
          have HD := Lib.hid hd
          subst hA
          obtain ⟨wb, HWB⟩ : ∃ wb, Hid (wb = wr.alloc (.cells #[.string e.1, .int .i64 e.2.1, .slice Bm mm dm] 117)) := ⟨_, rfl⟩
          have hb1 : Below wr.heap.size wr wb := by rw [HWB.out]; exact below_box _ _
          have BN : Blk wb wr.heap.size 117 #[.string e.1, .int .i64 e.2.1, .slice Bm mm dm] := by rw [HWB.out]; exact Blk.new _ _ _
          have Tb := below_next hTr hb1 rfl
          have BXb := (BX.next hTr).next hb1
          have cX0 := BXb.cell 0
          have cX1 := BXb.cell 1
          have cN0 := BN.cell 0
          have cN1 := BN.cell 1
          have cN2 := BN.cell 2
          simp at cX0 cX1 cN0 cN1 cN2
          have rdz := shAlgebra.stab hF4 Tb.block
          have rde := shAlgebra.stab hral (below_next T4 Tb rfl).block
          have hk0 : (0 : Int) ≤ (k : Int) := by omega
          have hk1 : (k : Int) < (xs.length : Int) := by omega
          obtain ⟨sv, HSV⟩ : ∃ b, Hid (eqC e.2 z = b) := ⟨_, rfl⟩
          clear H hd hxe hc hr hops hb1
          go_upto_region 7 with fail
          rw [← HWB.out]
          go_wp2_with fail
          refine (sameAlgebra_any _ _ e.2 z _ rde rdz).mono ?_
          rintro e' w6 ⟨rfl, hb6⟩
          rw [HSV.out]
          have T6 := below_next Tb hb6 rfl
          have BN6 := BN.next hb6
          clear cN0 cN1 cN2 cX0 cX1
          have cN0 := BN6.cell 0
          simp at cN0
          rcases sv with _ | _
          · go_wp2_with fail
            go_roundw
            case rel => exact ⟨k + 1, by omega, by go_num, HH.out.step HD.out HSV.out, T6⟩
            case measure => simp [intOf]; omega
          · go_wp2_with fail
            go_ret2
            exact ⟨by rw [HH.out.stop HD.out HSV.out]; rfl, below_next T4 T6 rfl⟩
        · have hlt' : ¬ (k : Int) < (xs.length : Int) := by omega
          have HH := Lib.hid H
          clear H
          go_wp2_with fail
          go_ret2
          exact ⟨by rw [HH.out.done hlt]; rfl, hTw⟩
set_option maxRecDepth 100000 in
set_option maxHeartbeats 8000000 in
theorem specNameOf_any (A : Option Addr) (n c : Nat) (xs : List EntryM) (ds : List Value) (y : AlgebraM) (w : World) (h : RdN shEntry.m shEntry.rd w A n xs) (h' : shAlgebra.rd w ds y) :
    Calls Try.prog 57 #[.slice A n c, .agg ds.toArray] w (Bl w (.tuple #[.string (noP xs y).1, .bool (noP xs y).2])) := by
  have hrd' := h'
  obtain rfl : xs.length = n := h.len
  have hle := h.le
  obtain ⟨D, m, d, rfl, qs', qo'⟩ := rdAlgebra h'
  obtain ⟨w0, hw0, T0, hsz0, BP⟩ := boxes1 w #[.int .i64 y.1, .slice D m d] 41
  have HW0 := Lib.hid hw0
  clear hw0 hsz0 h' qs' qo'
  obtain ⟨r1, HR1⟩ : ∃ r, Hid (catB xs = r) := ⟨_, rfl⟩
  obtain ⟨r2, HR2⟩ : ∃ r, Hid (smallB y = r) := ⟨_, rfl⟩
  have HM : Hid (noP xs y = if r1 && r2 then findN (canA y) xs else (⟨#[]⟩, false)) := by show _ = _; unfold noP; rw [HR1.out, HR2.out]
  rw [HM.out]
  clear HM
  rcases r1 with _ | _
  · go_enter Try.func57, Try.ntmps57
    go_wp2_with fail
    rw [← HW0.out]
    refine (l31Good_any _ _ _ xs _ (h.next T0)).mono ?_
    rintro e w1 ⟨rfl, hb1⟩
    rw [HR1.out]
    have T1 := below_next T0 hb1 rfl
    go_wp2_with fail
    go_ret2
    exact ⟨rfl, T1⟩
  · rcases r2 with _ | _
    · go_enter Try.func57, Try.ntmps57
      go_wp2_with fail
      rw [← HW0.out]
      refine (l31Good_any _ _ _ xs _ (h.next T0)).mono ?_
      rintro e w1 ⟨rfl, hb1⟩
      rw [HR1.out]
      have T1 := below_next T0 hb1 rfl
      replace BP := BP.next hb1
      have cP0 := BP.cell 0
      have cP1 := BP.cell 1
      simp at cP0 cP1
      go_wp2_with fail
      refine (l31Takes_any _ y _ (shAlgebra.stab hrd' T1.block)).mono ?_
      rintro e w2 ⟨rfl, hb2⟩
      rw [HR2.out]
      have T2 := below_next T1 hb2 rfl
      go_wp2_with fail
      go_ret2
      exact ⟨rfl, T2⟩
    · rw [show (true && true) = true from rfl, if_pos rfl]
      have hsy := small_iff.1 HR2.out
      have HSM : Hid (∀ e ∈ xs, SmallP e.2) := fun e he => cat_small HR1.out he
      have HSZ : Hid (SmallP (canA y)) := canA_small hsy
      obtain ⟨z, HZ⟩ : ∃ z, Hid (canA y = z) := ⟨_, rfl⟩
      rw [HZ.out] at HSZ ⊢
      go_enter Try.func57, Try.ntmps57
      go_wp2_with fail
      rw [← HW0.out]
      refine (l31Good_any _ _ _ xs _ (h.next T0)).mono ?_
      rintro e w1 ⟨rfl, hb1⟩
      rw [HR1.out]
      have T1 := below_next T0 hb1 rfl
      replace BP := BP.next hb1
      have cP0 := BP.cell 0
      have cP1 := BP.cell 1
      simp at cP0 cP1
      go_wp2_with fail
      refine (l31Takes_any _ y _ (shAlgebra.stab hrd' T1.block)).mono ?_
      rintro e w2 ⟨rfl, hb2⟩
      rw [HR2.out]
      have T2 := below_next T1 hb2 rfl
      replace BP := BP.next hb2
      clear cP0 cP1
      have cP0 := BP.cell 0
      have cP1 := BP.cell 1
      simp at cP0 cP1
      go_wp2_with fail
      refine (formR (shAlgebra.stab hrd' T2.block) hsy).mono ?_
      rintro e w3 ⟨V, L, vc, rfl, hF, hb3⟩
      rw [HZ.out] at hF ⊢
      have T3 := below_next T2 hb3 rfl
      obtain ⟨w4, hw4, T4', -, BX⟩ := boxes1 w3 #[.int .i64 z.1, .slice V L vc] 41
      have HW4 := Lib.hid hw4
      have T4 := below_next T3 T4' rfl
      have hF4 := shAlgebra.stab hF T4'.block
      have hz34 := T3.size
      have hz4 := BX.lt
      clear hw4 cP0 cP1 BP hF
      go_wp2_with fail
      rw [← HW4.out]
      go_loopw [7] (fun i wr => ∃ k : Nat, k ≤ xs.length ∧ i = .int .i64 k ∧ FAt z xs k ∧ Below w4.heap.size w4 wr) (fun i _ => xs.length - (intOf i).toNat)
      case atStart => exact ⟨0, Nat.zero_le _, rfl, rfl, Below.refl _ _⟩
      case round =>
        obtain ⟨k, hk, rfl, H, hTr⟩ := hrel
        have hTw := below_next T4 hTr rfl
        by_cases hlt : k < xs.length
        · obtain ⟨b, o, vs, e, hA, -, hc, hr, hd, hxe⟩ := h.at hlt
          obtain ⟨Bm, mm, dm, rfl, hsz, hIn, hops⟩ := rdEntry hr
          have cc0 : wr.cell? ⟨b, o + k * 3, none⟩ = some (.string e.1) := keepc hTw (hc 0 _ rfl)
          have cc1 : wr.cell? ⟨b, o + k * 3 + 1, none⟩ = some (.int .i64 e.2.1) := keepc hTw (hc 1 _ rfl)
          have cc2 : wr.cell? ⟨b, o + k * 3 + 2, none⟩ = some (.slice Bm mm dm) := keepc hTw (hc 2 _ rfl)
          have hral := mkAlgebra (cOps := dm) hIn hops
          have hse := HSM.out e (List.mem_of_getElem? hxe)
          have HH := Lib.hid H
          have HD := Lib.hid hd
          subst hA
          have BXb := BX.next hTr
          have cX0 := BXb.cell 0
          have cX1 := BXb.cell 1
          simp at cX0 cX1
          have rdz := shAlgebra.stab hF4 hTr.block
          have rde := shAlgebra.stab hral hTw.block
          have hk0 : (0 : Int) ≤ (k : Int) := by omega
          have hk1 : (k : Int) < (xs.length : Int) := by omega
          obtain ⟨sv, HSV⟩ : ∃ b, Hid (eqC e.2 z = b) := ⟨_, rfl⟩
          have HC1 : ∀ wz, Below wr.heap.size wr wz → Calls Try.prog 80 #[.agg #[.int .i64 e.2.1, .slice Bm mm dm], .agg #[.int .i64 z.1, .slice V L vc]] wz (Bl wz (.bool sv)) := fun wz hz => by
            have := l31Same_any [.int .i64 e.2.1, .slice Bm mm dm] [.int .i64 z.1, .slice V L vc] e.2 z wz (shAlgebra.stab rde hz.block) (shAlgebra.stab rdz hz.block) hse HSZ.out
            rw [HSV.out] at this
            exact this
          have Tk : Below wr.heap.size wr wr := Below.refl _ _
          clear H hd hxe hc hr hops
          go_upto_region 7 with fail
          go_cut [30] (fun v30 wx => v30 = .bool sv ∧ Below wr.heap.size wr wx)
          case first =>
            go_region_held3 (fun w' => w'.cell? ⟨b, o + k * 3 + 1, none⟩ = some (.int .i64 e.2.1) ∧ w'.cell? ⟨b, o + k * 3 + 2, none⟩ = some (.slice Bm mm dm) ∧ w'.cell? ⟨w3.heap.size, 0, none⟩ = some (.int .i64 z.1) ∧ w'.cell? ⟨w3.heap.size, 1, none⟩ = some (.slice V L vc)) (first | go_keep | exact ⟨keepc Tk cc1, keepc Tk cc2, keepc Tk cX0, keepc Tk cX1⟩) (first
              | (go_at_call 80; (with_reducible refine (HC1 _ ?_).mono ?_); (first | exact Tk | exact Below.drew Tk); rintro e' wn ⟨rfl, hbn⟩; replace Tk := below_next (by first | exact Tk | exact Below.drew Tk) hbn rfl))
            all_goals
              go_wp2_with fail
              go_meet
              exact ⟨rfl, by first | exact Tk | exact Below.drew Tk⟩
          case rest =>
            obtain ⟨rfl, hTc⟩ := hcut
            obtain ⟨w6, HWC⟩ : ∃ wq : World, wq = wc := ⟨_, rfl⟩
            subst HWC
            have T6 := below_next hTr hTc rfl
            have d0 := keepc hTc cc0
            clear cc0 cc1 cc2 cX0 cX1 HC1 Tk
            rcases sv with _ | _
            · go_wp2_with fail
              go_roundw
              case rel => exact ⟨k + 1, by omega, by go_num, HH.out.step HD.out HSV.out, T6⟩
              case measure => simp [intOf]; omega
            · go_wp2_with fail
              go_ret2
              exact ⟨by rw [HH.out.stop HD.out HSV.out]; rfl, below_next T4 T6 rfl⟩
        · have hlt' : ¬ (k : Int) < (xs.length : Int) := by omega
          have HH := Lib.hid H
          clear H
          go_wp2_with fail
          go_ret2
          exact ⟨by rw [HH.out.done hlt]; rfl, hTw⟩
/-- spec.IsCatalogue. -/
theorem specIsCat_any (A : Option Addr) (n c : Nat) (xs : List EntryM) (w : World) (h : RdN shEntry.m shEntry.rd w A n xs) :
    Calls Try.prog 53 #[.slice A n c] w (Bl w (.bool (catB xs))) := by
  go_enter Try.func53, Try.ntmps53
  go_wp2_with (go_at_call 97; refine (l31Good_any _ _ _ xs _ h).mono ?_; rintro e w1 ⟨rfl, hb1⟩)
  go_ret
  exact ⟨rfl, hb1⟩

/-! ## The forms that the laws cite -/
theorem isCatv_any (v : Value) (xs : List EntryM) (w : World) (h : (Sh.rows shEntry 117).rd w [v] xs) : Calls Try.prog 55 #[v] w (Bl w (.bool (catB xs))) := by
  obtain ⟨A, n, c, e, r⟩ := h
  injection e with e _
  subst e
  exact isCat_any A n c xs w r
theorem specIsCatv_any (v : Value) (xs : List EntryM) (w : World) (h : (Sh.rows shEntry 117).rd w [v] xs) : Calls Try.prog 53 #[v] w (Bl w (.bool (catB xs))) := by
  obtain ⟨A, n, c, e, r⟩ := h
  injection e with e _
  subst e
  exact specIsCat_any A n c xs w r
theorem implNameOfv_any (v : Value) (xs : List EntryM) (ds : List Value) (y : AlgebraM) (w : World) (h : (Sh.rows shEntry 117).rd w [v] xs) (h' : shAlgebra.rd w ds y) : Calls Try.prog 58 #[v, .agg ds.toArray] w (Bl w (.tuple #[.string (noP xs y).1, .bool (noP xs y).2])) := by
  obtain ⟨A, n, c, e, r⟩ := h
  injection e with e _
  subst e
  exact implNameOf_any A n c xs ds y w r h'
theorem specNameOfv_any (v : Value) (xs : List EntryM) (ds : List Value) (y : AlgebraM) (w : World) (h : (Sh.rows shEntry 117).rd w [v] xs) (h' : shAlgebra.rd w ds y) : Calls Try.prog 57 #[v, .agg ds.toArray] w (Bl w (.tuple #[.string (noP xs y).1, .bool (noP xs y).2])) := by
  obtain ⟨A, n, c, e, r⟩ := h
  injection e with e _
  subst e
  exact specNameOf_any A n c xs ds y w r h'
end Go.Proofs.Ytppnmpeicmlneaa
