
/- Walks: the value of a term (the program). -/
import Derived.Test.YtidjocikbmkjbaaGreatTerm
import Derived.Test.YtidjocikbmkjbaaGreatBl
import Derived.Test.YtidjocikbmkjbaaGreatPutX
namespace Go.Proofs.YtidjocikbmkjbaaGreat
open Go.RowKit
set_option linter.unusedVariables false

theorem evS_le {N : Nat} {ops : List OpM} {vals : List Int} : ∀ l : List Int, (evS N ops vals l).length ≤ l.length
  | [] => Nat.le_refl _
  | v :: l => by
    have ih := evS_le (N := N) (ops := ops) (vals := vals) l
    unfold evS
    split
    · simp only [List.length_cons]; omega
    · simp only [List.length_cons, List.length_drop]; omega
theorem ev_at {N : Nat} {ops : List OpM} {vals t : List Int} (hN : 0 < N) (hops : ∀ o ∈ ops, OpP N o) (hin : ∀ y ∈ vals, 0 ≤ y ∧ y ≤ (N : Int) - 1) (hT : termB ops t = true) (hvars : ∀ v ∈ t, v < (vals.length : Int)) {k : Nat} {v : Int} (hv : t[k]? = some v) :
    (0 ≤ v → ∃ y : Nat, vals[v.toNat]? = some (y : Int) ∧ y < N ∧ evS N ops vals (t.drop k) = y :: evS N ops vals (t.drop (k + 1))) ∧
    (¬ 0 ≤ v → ∃ (ar : Nat) (tb : List Int) (u : Nat), ops[(-1 - v).toNat]? = some ((ar : Int), tb) ∧ (-1 - v).toNat < ops.length ∧ ar ≤ 3 ∧ ar ≤ (evS N ops vals (t.drop (k + 1))).length ∧ (∀ d ∈ evS N ops vals (t.drop (k + 1)), d < N) ∧ tb[idx N ((evS N ops vals (t.drop (k + 1))).take ar)]? = some (u : Int) ∧ u < N ∧ evS N ops vals (t.drop k) = u :: (evS N ops vals (t.drop (k + 1))).drop ar) := by
  have hk := (List.getElem?_eq_some_iff.1 hv).1
  have e : t.drop k = v :: t.drop (k + 1) := by rw [List.drop_eq_getElem_cons hk, (List.getElem?_eq_some_iff.1 hv).2]
  obtain ⟨m, hg⟩ := GoodS.drop k (show GoodS ops t 1 from (term_end hT).2)
  rw [e] at hg ⊢
  obtain ⟨h0, hb, h1⟩ := hg.cons
  have hlt := evS_lt hN hops hin h1 fun x hx => hvars x (List.mem_of_mem_drop hx)
  refine ⟨fun h => ?_, fun h => ?_⟩
  · have hl : v.toNat < vals.length := by have := hvars v (List.mem_of_getElem? hv); omega
    have hy := hin _ (List.getElem_mem hl)
    obtain ⟨y, hy'⟩ := Int.eq_ofNat_of_zero_le hy.1
    have hy2 : vals[v.toNat]? = some (y : Int) := by rw [List.getElem?_eq_getElem hl, hy']
    exact ⟨y, hy2, by omega, evS_var h hy2⟩
  · obtain ⟨o, ho, hoP, ha, htb, hl⟩ := op_at hops hb h
    obtain ⟨ar, tb, rfl, h3⟩ := op_nat hoP
    have har : arF ops v = ar := by rw [ha]; simp
    have hroom := (hg.room (n := N) (vals := vals)).2 h
    rw [har] at hroom
    obtain ⟨u, hu, hun⟩ := tab_lt hN hoP (l := (evS N ops vals (t.drop (k + 1))).take ar) (by rw [List.length_take]; simp; omega) fun d hd => hlt d (List.mem_of_mem_take hd)
    refine ⟨ar, tb, u, ho, hl, h3, hroom, hlt, hu, hun, ?_⟩
    have := evS_op (n := N) (vals := vals) (l := t.drop (k + 1)) (o := ((ar : Int), tb)) (x := u) h ha htb (by simpa using hu)
    simpa using this
theorem take_rev {α : Type} (S : List α) (a : Nat) : S.reverse.take (S.length - a) = (S.drop a).reverse := by
  rw [List.take_reverse]
  congr 1
  by_cases h : a ≤ S.length
  · congr 1; omega
  · rw [List.drop_eq_nil_of_le (show S.length ≤ a by omega), List.drop_eq_nil_of_le (by omega)]
theorem rev_get {S : List Nat} {q d : Nat} (h : S[q]? = some d) : (ints (nats S.reverse))[S.length - 1 - q]? = some (.int .i64 (d : Int)) := by
  have hq := (List.getElem?_eq_some_iff.1 h).1
  unfold ints nats
  rw [List.getElem?_map, List.getElem?_map, List.getElem?_reverse (by omega), show S.length - 1 - (S.length - 1 - q) = q by omega, h]
  rfl
theorem nats_app (a b : List Nat) : nats (a ++ b) = nats a ++ nats b := by simp [nats]
theorem ints_app (a b : List Int) : ints (a ++ b) = ints a ++ ints b := by simp [ints]
theorem ints_take (a : List Int) (k : Nat) : (ints a).take k = ints (a.take k) := by simp [ints, List.map_take]
theorem nats_take (a : List Nat) (k : Nat) : (nats a).take k = nats (a.take k) := by simp [nats, List.map_take]
theorem idx_bd {N : Nat} (hN : N ≤ 8) {l : List Nat} (hl : l.length ≤ 3) (hd : ∀ d ∈ l, d < N) : idx N l ≤ 4096 := by
  have := idx_small hN (l := l) (by omega) hd
  omega
set_option maxRecDepth 20000 in
set_option maxHeartbeats 8000000 in
theorem eval_any (cs : List Value) (x : AlgebraM) (A B0 : Option Addr) (n c m0 c0 : Nat) (t vals : List Int) (w : World) (h : shAlgebra.rd w cs x) (hx : AlgP x) (ht : RdL RI w A n t) (hv : RdL RI w B0 m0 vals) (hT : termB x.2 t = true) (hvars : ∀ v ∈ t, v < (vals.length : Int)) (hin : ∀ y ∈ vals, 0 ≤ y ∧ y ≤ x.1 - 1) :
    Calls Tryz.prog 89 #[.agg cs.toArray, .slice A n c, .slice B0 m0 c0] w (Bl w (.int .i64 ((evT x.1.toNat x.2 vals t : Nat) : Int))) := by
  obtain ⟨a, ops⟩ := x
  obtain ⟨hx1, hx2, hx3, hx4⟩ := hx
  simp only at hx1 hx2 hx3 hx4 hT hin
  obtain ⟨N, rfl⟩ := Int.eq_ofNat_of_zero_le (show 0 ≤ a by omega)
  rw [Int.toNat_natCast] at hx4
  show Calls Tryz.prog 89 _ w (Bl w (.int .i64 ((evT (Int.toNat (N : Int)) ops vals t : Nat) : Int)))
  rw [Int.toNat_natCast]
  have hN0 : 0 < N := by omega
  have hN8 : N ≤ 8 := by omega
  obtain ⟨B, m, d, rfl, -, qo⟩ := rdAlgebra h
  have hml := qo.len
  simp only at hml
  have hm4 : m ≤ 4 := by omega
  have hn60 : n ≤ 60 := by have := (term_end hT).1; have := ht.len; omega
  have hn0 : 0 < n := by have := term_pos hT; have := ht.len; omega
  have HAT : Hid (∀ k v, t[k]? = some v → _) := fun k v hv => ev_at hN0 hx4 hin hT hvars hv
  have HE1 : Hid (∀ k, (evS N ops vals (t.drop k)).length ≤ 60) := fun k => by have := evS_le (N := N) (ops := ops) (vals := vals) (t.drop k); rw [List.length_drop] at this; have := ht.len; omega
  have HEN : Hid (evS N ops vals (t.drop n) = []) := by show _ = _; rw [List.drop_eq_nil_of_le (by rw [ht.len]; exact Nat.le_refl _)]; rfl
  have HE0 : Hid ((evS N ops vals (t.drop 0)).length = 1) := evS_len (show GoodS ops t 1 from (term_end hT).2)
  have HRES : Hid (evT N ops vals t = (evS N ops vals (t.drop 0)).headD 0) := rfl
  obtain ⟨E, hE⟩ : ∃ E : Nat → List Nat, (fun k => evS N ops vals (t.drop k)) = E := ⟨_, rfl⟩
  have hE' : ∀ k, evS N ops vals (t.drop k) = E k := fun k => congrFun hE k
  simp only [hE'] at HAT HE1 HEN HE0 HRES
  have HML := Lib.hid hml
  clear hE hE' hx4 hin hT hvars hx3 hml h
  obtain ⟨w0, hw0, T0, hsz0, BP⟩ := boxes1 w #[.int .i64 (N : Int), .slice B m d] 39
  have HW0 := Lib.hid hw0
  replace qo := qo.next T0
  replace ht := ht.next stab_RI T0
  replace hv := hv.next stab_RI T0
  clear hw0 hsz0
  go_enter Tryz.func89, Tryz.ntmps89
  obtain ⟨ii, hi, hz0, hz1, hz2⟩ := info_parts info_int
  go_upto_region 1 with fail
  rw [← HW0.out]
  go_wp2_with (at_make; refine wpList_make_own w0 rfl _ _ 25 rfl w0.heap.size 3 ii (.int .i64 0) 1 Tryz.underlying25 hi hz0 hz1 .i64 .i64 n n rfl rfl rfl (by rw [hz2]; omega) (by unfold maxLen; omega) (Nat.le_refl _) ?_; intro w1 hown1 hg1)
  have hb1 := (Below.refl w0.heap.size w0).grown hg1 (Nat.le_refl _) (by simp)
  clear hg1 hi hz0 hz1 hz2
  go_loopw [7, 8] (fun s i wr => ∃ (k q : Nat) (A1 : Option Addr) (c1 : Nat), k ≤ n ∧ i = .int .i64 ((k : Int) - 1) ∧ s = .slice A1 q c1 ∧ q = (E k).length ∧ wr.ownsRow w0.heap.size 3 1 (.slice A1 q c1) q (ints (nats (E k).reverse)) ∧ Below w0.heap.size w0 wr) (fun _ i _ => (intOf i + 1).toNat)
  case atStart =>
    refine ⟨n, 0, _, _, Nat.le_refl _, rfl, rfl, ?_, ?_, hb1⟩
    · rw [HEN.out]; rfl
    · rw [HEN.out]; exact hown1
  case round =>
    clear hown1 hb1
    obtain ⟨k, q, A1, c1, hk, rfl, rfl, hq, hown, hTr⟩ := hrel
    have hq60 : q ≤ 60 := by rw [hq]; exact HE1.out k
    have HQ := Lib.hid hq
    clear hq
    have cP0 := (BP.next hTr).cell 0
    have cP1 := (BP.next hTr).cell 1
    simp at cP0 cP1
    have hzr := hTr.size
    rcases k with _ | k
    · have h0 : ¬ (0 : Int) ≤ ((0 : Nat) : Int) - 1 := by omega
      obtain ⟨u, hu⟩ : ∃ u, E 0 = [u] := by
        have := HE0.out
        rcases e : E 0 with _ | ⟨u, _ | ⟨_, _⟩⟩
        · rw [e] at this; simp at this
        · exact ⟨u, rfl⟩
        · rw [e] at this; simp at this
      have hq1 : q = 1 := by rw [HQ.out, hu]; rfl
      subst hq1
      obtain ⟨g, rfl, -, -⟩ := own_form hown (by omega)
      have hc0 : wr.cell? ⟨g, 0, none⟩ = some (.int .i64 (u : Int)) := by
        rw [hown.cellAt 0 (by omega), hu]
        rfl
      have HR2 : Hid (evT N ops vals t = u) := by show _ = _; rw [HRES.out, hu]; rfl
      clear hown hu
      go_wp2_with fail
      go_ret
      exact ⟨ret_int (by rw [HR2.out]), below_next T0 hTr rfl⟩
    · have h0 : (0 : Int) ≤ ((k + 1 : Nat) : Int) - 1 := by omega
      have e1 : ((k + 1 : Nat) : Int) - 1 = (k : Int) := by omega
      rw [e1]
      clear h0 e1
      have hk0 : (0 : Int) ≤ (k : Int) := by omega
      have hk1 : (k : Int) < (n : Int) := by omega
      obtain ⟨b, o, uu, v, rfl, hc, ⟨rfl, hv0, hv1⟩, -, hxv⟩ := (ht.next stab_RI hTr).at (k := k) (by omega)
      obtain ⟨hA, hB⟩ := HAT.out k v hxv
      clear hxv
      by_cases h0v : 0 ≤ v
      · obtain ⟨y, hy, hyN, he⟩ := hA h0v
        obtain ⟨j, rfl⟩ := Int.eq_ofNat_of_zero_le h0v
        rw [Int.toNat_natCast] at hy
        have hjm : j < m0 := by rw [← hv.len]; exact (List.getElem?_eq_some_iff.1 hy).1
        obtain ⟨b2, o2, u2, y2, rfl, hc2, ⟨rfl, -, -⟩, -, hy2⟩ := (hv.next stab_RI hTr).at hjm
        rw [hy] at hy2
        injection hy2 with hy2
        subst hy2
        have hj1 : (j : Int) < (m0 : Int) := by omega
        have hj0 : (0 : Int) ≤ (j : Int) := by omega
        have HEK : Hid (E k = y :: E (k + 1)) := he
        clear he hA hB hy
        go_wp2_with (at_builtin; refine app1 wr rfl _ _ 25 3 rfl (.int .i64 0) 8 Tryz.underlying25 info_int rfl (by decide) w0.heap.size q c1 A1 _ rfl hown (.int .i64 (y : Int)) rfl rfl (by omega) (by omega) ?_; intro A2 c2 w2 hown2 hg2 hb2)
        go_roundw
        case rel => exact ⟨k, q + 1, A2, c2, by omega, by go_num, rfl, by rw [HEK.out, List.length_cons, ← HQ.out], by rw [HEK.out, List.reverse_cons, nats_app, ints_app]; exact hown2, hTr.trans hb2⟩
        case measure => simp [intOf]; try omega
      · obtain ⟨ar, tb, u, hob, hjl, h3, hroom, hdl, htu, huN, he⟩ := hB (by omega)
        clear hA hB
        obtain ⟨j, hj⟩ : ∃ j, j = (-1 - v).toNat := ⟨_, rfl⟩
        rw [← hj] at hob hjl
        have hjm : j < m := by rw [← HML.out]; exact hjl
        obtain ⟨b2, o2, vs, y, rfl, -, hc2, hr2, -, hy⟩ := (qo.next hTr).at hjm
        rw [hob] at hy
        injection hy with hy
        subst hy
        obtain ⟨B', m', d', rfl, -, qt⟩ := rdOp hr2
        have cc0 : wr.cell? ⟨b2, o2 + j * 2, none⟩ = some (.int .i64 (ar : Int)) := hc2 0 _ rfl
        have cc1 : wr.cell? ⟨b2, o2 + j * 2 + 1, none⟩ = some (.slice B' m' d') := hc2 1 _ rfl
        have ej : (-1 : Int) - v = (j : Int) := by omega
        have hj0 : (0 : Int) ≤ (j : Int) := by omega
        have hj1 : (j : Int) < (m : Int) := by omega
        have hvn : ¬ (0 : Int) ≤ v := h0v
        obtain ⟨S, HS⟩ : ∃ S, Hid (E (k + 1) = S) := ⟨_, rfl⟩
        rw [HS.out] at hroom hdl htu he hown
        have HEK := Lib.hid he
        have HQS : Hid (q = S.length) := by show _ = _; rw [HQ.out, HS.out]
        have har : ar ≤ q := by rw [HQS.out]; exact hroom
        have HDL := Lib.hid hdl
        have HTU := Lib.hid htu
        obtain ⟨w1, hw1, T1, hsz1, BX⟩ := boxes1 wr #[.int .i64 (ar : Int), .slice B' m' d'] 67
        have HW1 := Lib.hid hw1
        have hown1 := own_next hown T1
        have cP0 := ((BP.next hTr).next T1).cell 0
        have BX0 := BX.cell 0
        have BX1 := BX.cell 1
        simp at cP0 BX0 BX1
        have qt1 := qt.next stab_RI T1
        have hT1 := below_next hTr T1 rfl
        have hz1 : wr.heap.size < w1.heap.size := by omega
        have hz2 : wr.heap.size ≠ w1.heap.size := by omega
        clear hob hjl hj hr2 hc2 qt hroom hdl htu he hw1 hown HQ hsz1
        go_wp2_with fail
        rw [← HW1.out]
        go_loopw [11, 12] (fun at_ kk wi => ∃ p : Nat, p ≤ ar ∧ kk = .int .i64 p ∧ at_ = .int .i64 ((idx N (S.take p) : Nat) : Int) ∧ Drawn w1 wi) (fun _ kk _ => ar - (intOf kk).toNat)
        case atStart => exact ⟨0, Nat.zero_le _, rfl, rfl, Drawn.zero _⟩
        case round =>
          obtain ⟨p, hp, rfl, rfl, z, rfl⟩ := hrel
          obtain ⟨P, HP⟩ : ∃ P, Hid (idx N (S.take p) = P) := ⟨_, rfl⟩
          have hP : P ≤ 4096 := by rw [← HP.out]; exact idx_bd hN8 (by rw [List.length_take]; omega) fun d hd => HDL.out d (List.mem_of_mem_take hd)
          rw [HP.out]
          by_cases hlt : p < ar
          · have hpl : p < S.length := by have := HQS.out; omega
            have hSp : S[p]? = some S[p] := List.getElem?_eq_getElem hpl
            have hdN := HDL.out _ (List.getElem_mem hpl)
            generalize S[p] = d at hSp hdN
            have HT : Hid (idx N (S.take (p + 1)) = P * N + d) := by show _ = _; rw [idx_take hSp, HP.out]
            have hM : P * N ≤ 4096 * 8 := Nat.mul_le_mul hP hN8
            have hm0 : (0 : Int) ≤ (P : Int) * (N : Int) := by rw [← Int.natCast_mul]; omega
            have hm1 : (P : Int) * (N : Int) ≤ 32768 := by rw [← Int.natCast_mul]; omega
            have HEE : Hid ((P : Int) * (N : Int) = ((P * N : Nat) : Int)) := (Int.natCast_mul _ _).symm
            obtain ⟨g, rfl, -, -⟩ := own_form hown1 (by omega)
            obtain ⟨r, hr⟩ : ∃ r, r = q - 1 - p := ⟨_, rfl⟩
            have hcr : w1.cell? ⟨g, r, none⟩ = some (.int .i64 (d : Int)) := by
              rw [hown1.cellAt r (by omega), hr, HQS.out]
              exact rev_get hSp
            have er : (q : Int) - 1 - (p : Int) = (r : Int) := by omega
            have hr0 : (0 : Int) ≤ (r : Int) := by omega
            have hr1 : (r : Int) < (q : Int) := by omega
            have hp1 : (p : Int) < (ar : Int) := by omega
            have hp0 : (0 : Int) ≤ (p : Int) := by omega
            have hw1 : IntKind.i64.wrap ((P : Int) * (N : Int)) = (P : Int) * (N : Int) := by rw [IntKind.wrap_i64]; omega
            have hw2 : IntKind.i64.wrap ((P : Int) * (N : Int) + (d : Int)) = (P : Int) * (N : Int) + (d : Int) := by rw [IntKind.wrap_i64]; omega
            have hws1 : IntKind.i64.wrap ((q : Int) - 1) = (q : Int) - 1 := by rw [IntKind.wrap_i64]; omega
            have hws2 : IntKind.i64.wrap (r : Int) = (r : Int) := by rw [IntKind.wrap_i64]; omega
            clear hM hSp hr
            go_wp2_with fail
            go_quiet (fail)
            go_wp2_with fail
            go_roundw
            case rel => exact ⟨p + 1, by omega, by go_num, by rw [HT.out, HEE.out]; simp, (by first | exact Drawn.zero _ | exact Drawn.at_ _ _ | exact (Drawn.at_ _ _).more _ | exact ((Drawn.at_ _ _).more _).more _)⟩
            case measure => simp [intOf]; try omega
          · obtain rfl : p = ar := by omega
            have hp1 : ¬ (p : Int) < (p : Int) := by omega
            have htu := HTU.out
            rw [HP.out] at htu
            have hPm : P < m' := by rw [← qt1.len]; exact (List.getElem?_eq_some_iff.1 htu).1
            obtain ⟨b3, o3, u3, y3, rfl, hc3, ⟨rfl, -, -⟩, -, hy3⟩ := qt1.at hPm
            rw [htu] at hy3
            injection hy3 with hy3
            subst hy3
            have hP0 : (0 : Int) ≤ (P : Int) := by omega
            have hP1 : (P : Int) < (m' : Int) := by omega
            obtain ⟨s, hs⟩ : ∃ s, s = q - p := ⟨_, rfl⟩
            have hown3 := own_take hown1 (k := s) (by omega)
            rw [ints_take, nats_take, show s = S.length - p by rw [hs, HQS.out], take_rev, ← show s = S.length - p by rw [hs, HQS.out]] at hown3
            have hqc := sort_cap hown1
            have es : (q : Int) - (p : Int) = (s : Int) := by omega
            have hs0 : (0 : Int) ≤ (s : Int) := by omega
            have hs1 : (s : Int) ≤ (c1 : Int) := by omega
            have hs2 : (s : Int) ≤ (q : Int) := by omega
            have hs60 : s ≤ 60 := by omega
            have HSL : Hid (s + 1 = (E k).length) := by show _ = _; rw [HEK.out, List.length_cons, List.length_drop, hs, HQS.out]
            have hownd : ((w1.drewN z).drew).ownsRow w0.heap.size 3 1 (.slice A1 s c1) s (ints (nats (S.drop p).reverse)) := hown3
            have hzz : w0.heap.size ≤ ((w1.drewN z).drew).heap.size := hT1.size
            have hws2 : IntKind.i64.wrap (s : Int) = (s : Int) := by rw [IntKind.wrap_i64]; omega
            have cA : ((w1.drewN (z + 1)).alloc (.cells #[.int .i64 (u : Int)] 3)).cell? ⟨wr.heap.size, 0, none⟩ = some (.int .i64 (p : Int)) := keepc (w := w1.drewN (z + 1)) (below_box _ _) BX0
            clear hs hown3 htu HP
            go_wp2_with fail
            go_region_law (first
              | (refine step_app1 ((w1.drewN z).drew) rfl (.tmp 67) (.tmp 73) 25 3 rfl (.int .i64 0) 8 Tryz.underlying25 info_int rfl (by decide) w0.heap.size s c1 A1 (ints (nats (S.drop p).reverse)) (by rfl) hownd (.int .i64 (u : Int)) rfl (by rfl) (by omega) (by exact hzz) ?_; intro A5 c5 w5 hown5 hg5 hb5; have T5 : Below w0.heap.size w0 w5 := (hT1.trans (below_drewN (Below.refl _ _) z)).trans ((Below.drew (Below.refl _ _)).trans hb5)))
            all_goals
              go_wp2_with fail
              go_roundw
              case rel => exact ⟨k, s + 1, A5, c5, by omega, by go_num, rfl, HSL.out, by rw [HEK.out, List.reverse_cons, nats_app, ints_app]; exact hown5, T5⟩
              case measure => simp [intOf]; try omega
end Go.Proofs.YtidjocikbmkjbaaGreat
namespace Go.Proofs.YtidjocikbmkjbaaGreat
open Go.RowKit
set_option linter.unusedVariables false

set_option maxRecDepth 20000 in
set_option maxHeartbeats 4000000 in
theorem l2Value_any (cs : List Value) (x : AlgebraM) (A : Option Addr) (n c j N ar u : Nat) (l : List Nat) (tb : List Int) (w : World) (h : shAlgebra.rd w cs x) (hxN : x.1 = (N : Int)) (hN8 : N ≤ 8) (ht : RdL RI w A n (nats l)) (hd : ∀ d ∈ l, d < N) (hn : n ≤ 3) (hob : x.2[j]? = some ((ar : Int), tb)) (hu : tb[idx N l]? = some (u : Int)) :
    Calls Tryz.prog 102 #[.agg cs.toArray, .int .i64 j, .slice A n c] w (Bl w (.int .i64 (u : Int))) := by
  obtain ⟨a, ops⟩ := x
  simp only at hxN hob
  subst hxN
  obtain ⟨B, m, d, rfl, -, qo⟩ := rdAlgebra h
  have HLL : Hid (l.length = n) := by show _ = _; rw [← ht.len, nats_len]
  have HDL := Lib.hid hd
  have hjm : j < m := by rw [← qo.len]; exact (List.getElem?_eq_some_iff.1 hob).1
  obtain ⟨w0, hw0, T0, hsz0, BP⟩ := boxes1 w #[.int .i64 (N : Int), .slice B m d] 39
  have HW0 := Lib.hid hw0
  replace qo := qo.next T0
  replace ht := ht.next stab_RI T0
  obtain ⟨b2, o2, vs, y, rfl, -, hc2, hr2, -, hy⟩ := qo.at hjm
  simp only at hy
  rw [hob] at hy
  injection hy with hy
  subst hy
  obtain ⟨B', m', d', rfl, -, qt⟩ := rdOp hr2
  have cc1 : w0.cell? ⟨b2, o2 + j * 2 + 1, none⟩ = some (.slice B' m' d') := hc2 1 _ rfl
  have hj0 : (0 : Int) ≤ (j : Int) := by omega
  have hj1 : (j : Int) < (m : Int) := by omega
  have hPm : idx N l < m' := by rw [← qt.len]; exact (List.getElem?_eq_some_iff.1 hu).1
  obtain ⟨b3, o3, u3, y3, rfl, hc3, ⟨rfl, -, -⟩, -, hy3⟩ := qt.at hPm
  simp only at hy3
  rw [hu] at hy3
  injection hy3 with hy3
  subst hy3
  have cP0 := BP.cell 0
  have cP1 := BP.cell 1
  simp at cP0 cP1
  clear hw0 hsz0 hd hob hu hr2 hc2 qt qo h
  go_enter Tryz.func102, Tryz.ntmps102
  go_wp2_with fail
  rw [← HW0.out]
  go_loopw [7, 8] (fun at_ kk wi => ∃ p : Nat, p ≤ n ∧ kk = .int .i64 p ∧ at_ = .int .i64 ((idx N (l.take p) : Nat) : Int) ∧ Drawn w0 wi) (fun _ kk _ => n - (intOf kk).toNat)
  case atStart => exact ⟨0, Nat.zero_le _, rfl, rfl, Drawn.zero _⟩
  case round =>
    obtain ⟨p, hp, rfl, rfl, z, rfl⟩ := hrel
    obtain ⟨P, HP⟩ : ∃ P, Hid (idx N (l.take p) = P) := ⟨_, rfl⟩
    have hP : P ≤ 4096 := by rw [← HP.out]; exact idx_bd hN8 (by rw [List.length_take]; omega) fun d hd => HDL.out d (List.mem_of_mem_take hd)
    rw [HP.out]
    by_cases hlt : p < n
    · have hpl : p < l.length := by have := HLL.out; omega
      obtain ⟨b, o, v, q, rfl, hc, ⟨rfl, -, -⟩, -, hq⟩ := ht.at hlt
      obtain ⟨d, hd, rfl⟩ := nats_get hq
      have hdN := HDL.out d (List.mem_of_getElem? hd)
      have HT : Hid (idx N (l.take (p + 1)) = P * N + d) := by show _ = _; rw [idx_take hd, HP.out]
      have hM : P * N ≤ 4096 * 8 := Nat.mul_le_mul hP hN8
      have hm0 : (0 : Int) ≤ (P : Int) * (N : Int) := by rw [← Int.natCast_mul]; omega
      have hm1 : (P : Int) * (N : Int) ≤ 32768 := by rw [← Int.natCast_mul]; omega
      have HEE : Hid ((P : Int) * (N : Int) = ((P * N : Nat) : Int)) := (Int.natCast_mul _ _).symm
      have hp1 : (p : Int) < (n : Int) := by omega
      have hp0 : (0 : Int) ≤ (p : Int) := by omega
      have hw1 : IntKind.i64.wrap ((P : Int) * (N : Int)) = (P : Int) * (N : Int) := by rw [IntKind.wrap_i64]; omega
      have hw2 : IntKind.i64.wrap ((P : Int) * (N : Int) + (d : Int)) = (P : Int) * (N : Int) + (d : Int) := by rw [IntKind.wrap_i64]; omega
      clear hM hq hd
      go_wp2_with fail
      go_quiet (fail)
      go_wp2_with fail
      go_roundw
      case rel => exact ⟨p + 1, by omega, by go_num, by rw [HT.out, HEE.out]; simp, (by first | exact Drawn.zero _ | exact Drawn.at_ _ _ | exact (Drawn.at_ _ _).more _ | exact ((Drawn.at_ _ _).more _).more _)⟩
      case measure => simp [intOf]; try omega
    · obtain rfl : p = n := by omega
      have hp1 : ¬ (p : Int) < (p : Int) := by omega
      have HPL : Hid (idx N l = P) := by
        show _ = _
        rw [← HP.out, List.take_of_length_le (by rw [HLL.out]; exact Nat.le_refl _)]
      rw [HPL.out] at hc3 hPm
      have hP0 : (0 : Int) ≤ (P : Int) := by omega
      have hP1 : (P : Int) < (m' : Int) := by omega
      go_wp2_with fail
      go_ret
      exact ⟨rfl, (by first | exact T0 | exact below_drewN (T0) _ | exact below_drewN (below_drewN (T0) _) _ | exact below_drewN (below_drewN (below_drewN (T0) _) _) _)⟩
set_option maxRecDepth 20000 in
set_option maxHeartbeats 8000000 in
theorem l3Value_any (cs : List Value) (x : AlgebraM) (A B0 : Option Addr) (n c m0 c0 : Nat) (t vals : List Int) (w : World) (h : shAlgebra.rd w cs x) (hx : AlgP x) (ht : RdL RI w A n t) (hv : RdL RI w B0 m0 vals) (hT : termB x.2 t = true) (hvars : ∀ v ∈ t, v < (vals.length : Int)) (hin : ∀ y ∈ vals, 0 ≤ y ∧ y ≤ x.1 - 1) :
    Calls Tryz.prog 76 #[.agg cs.toArray, .slice A n c, .slice B0 m0 c0] w (Bl w (.int .i64 ((evT x.1.toNat x.2 vals t : Nat) : Int))) := by
  obtain ⟨a, ops⟩ := x
  obtain ⟨hx1, hx2, hx3, hx4⟩ := hx
  simp only at hx1 hx2 hx3 hx4 hT hin
  obtain ⟨N, rfl⟩ := Int.eq_ofNat_of_zero_le (show 0 ≤ a by omega)
  rw [Int.toNat_natCast] at hx4
  show Calls Tryz.prog 76 _ w (Bl w (.int .i64 ((evT (Int.toNat (N : Int)) ops vals t : Nat) : Int)))
  rw [Int.toNat_natCast]
  have hN0 : 0 < N := by omega
  have hN8 : N ≤ 8 := by omega
  have hrd := h
  obtain ⟨B, m, d, rfl, -, qo⟩ := rdAlgebra h
  have hml := qo.len
  simp only at hml
  have hm4 : m ≤ 4 := by omega
  have hn60 : n ≤ 60 := by have := (term_end hT).1; have := ht.len; omega
  have hn0 : 0 < n := by have := term_pos hT; have := ht.len; omega
  have HAT : Hid (∀ k v, t[k]? = some v → _) := fun k v hv => ev_at hN0 hx4 hin hT hvars hv
  have HE1 : Hid (∀ k, (evS N ops vals (t.drop k)).length ≤ 60) := fun k => by have := evS_le (N := N) (ops := ops) (vals := vals) (t.drop k); rw [List.length_drop] at this; have := ht.len; omega
  have HEN : Hid (evS N ops vals (t.drop n) = []) := by show _ = _; rw [List.drop_eq_nil_of_le (by rw [ht.len]; exact Nat.le_refl _)]; rfl
  have HE0 : Hid ((evS N ops vals (t.drop 0)).length = 1) := evS_len (show GoodS ops t 1 from (term_end hT).2)
  have HRES : Hid (evT N ops vals t = (evS N ops vals (t.drop 0)).headD 0) := rfl
  obtain ⟨E, hE⟩ : ∃ E : Nat → List Nat, (fun k => evS N ops vals (t.drop k)) = E := ⟨_, rfl⟩
  have hE' : ∀ k, evS N ops vals (t.drop k) = E k := fun k => congrFun hE k
  simp only [hE'] at HAT HE1 HEN HE0 HRES
  have HML := Lib.hid hml
  clear hE hE' hx4 hin hT hvars hx3 hml h
  obtain ⟨w0, hw0, T0, hsz0, BP⟩ := boxes1 w #[.int .i64 (N : Int), .slice B m d] 39
  have HW0 := Lib.hid hw0
  replace qo := qo.next T0
  replace ht := ht.next stab_RI T0
  replace hv := hv.next stab_RI T0
  have HRD : Hid (∀ wz, Below w0.heap.size w0 wz → shAlgebra.rd wz [.int .i64 (N : Int), .slice B m d] ((N : Int), ops)) := fun wz hz => shAlgebra.stab (shAlgebra.stab hrd T0.block) hz.block
  have hb1 := below_box w0 (.cells #[] 3)
  have hown1 : (w0.alloc (.cells #[] 3)).ownsRow w0.heap.size 3 1 (.slice (some ⟨w0.heap.size, 0, none⟩) 0 0) 0 [] := World.ownsRow_lit w0 #[] 0 (Nat.le_refl _) (Nat.zero_le _) rfl
  clear hw0 hsz0 hrd
  go_enter Tryz.func76, Tryz.ntmps76
  go_upto_region 1 with fail
  rw [← HW0.out]
  go_wp2_with fail
  go_loopw [7, 8] (fun s i wr => ∃ (k q : Nat) (A1 : Option Addr) (c1 : Nat), k ≤ n ∧ i = .int .i64 ((k : Int) - 1) ∧ s = .slice A1 q c1 ∧ q = (E k).length ∧ wr.ownsRow w0.heap.size 3 1 (.slice A1 q c1) q (ints (nats (E k).reverse)) ∧ Below w0.heap.size w0 wr) (fun _ i _ => (intOf i + 1).toNat)
  case atStart =>
    refine ⟨n, 0, _, _, Nat.le_refl _, rfl, rfl, ?_, ?_, hb1⟩
    · rw [HEN.out]; rfl
    · rw [HEN.out]; exact hown1
  case round =>
    clear hown1 hb1
    obtain ⟨k, q, A1, c1, hk, rfl, rfl, hq, hown, hTr⟩ := hrel
    have hq60 : q ≤ 60 := by rw [hq]; exact HE1.out k
    have HQ := Lib.hid hq
    clear hq
    have cP0 := (BP.next hTr).cell 0
    have cP1 := (BP.next hTr).cell 1
    simp at cP0 cP1
    have hzr := hTr.size
    rcases k with _ | k
    · have h0 : ¬ (0 : Int) ≤ ((0 : Nat) : Int) - 1 := by omega
      obtain ⟨u, hu⟩ : ∃ u, E 0 = [u] := by
        have := HE0.out
        rcases e : E 0 with _ | ⟨u, _ | ⟨_, _⟩⟩
        · rw [e] at this; simp at this
        · exact ⟨u, rfl⟩
        · rw [e] at this; simp at this
      have hq1 : q = 1 := by rw [HQ.out, hu]; rfl
      subst hq1
      obtain ⟨g, rfl, -, -⟩ := own_form hown (by omega)
      have hc0 : wr.cell? ⟨g, 0, none⟩ = some (.int .i64 (u : Int)) := by
        rw [hown.cellAt 0 (by omega), hu]
        rfl
      have HR2 : Hid (evT N ops vals t = u) := by show _ = _; rw [HRES.out, hu]; rfl
      clear hown hu
      go_wp2_with fail
      go_ret
      exact ⟨ret_int (by rw [HR2.out]), below_next T0 hTr rfl⟩
    · have h0 : (0 : Int) ≤ ((k + 1 : Nat) : Int) - 1 := by omega
      have e1 : ((k + 1 : Nat) : Int) - 1 = (k : Int) := by omega
      rw [e1]
      clear h0 e1
      have hk0 : (0 : Int) ≤ (k : Int) := by omega
      have hk1 : (k : Int) < (n : Int) := by omega
      obtain ⟨b, o, uu, v, rfl, hc, ⟨rfl, hv0, hv1⟩, -, hxv⟩ := (ht.next stab_RI hTr).at (k := k) (by omega)
      obtain ⟨hA, hB⟩ := HAT.out k v hxv
      clear hxv
      by_cases h0v : 0 ≤ v
      · obtain ⟨y, hy, hyN, he⟩ := hA h0v
        obtain ⟨j, rfl⟩ := Int.eq_ofNat_of_zero_le h0v
        rw [Int.toNat_natCast] at hy
        have hjm : j < m0 := by rw [← hv.len]; exact (List.getElem?_eq_some_iff.1 hy).1
        obtain ⟨b2, o2, u2, y2, rfl, hc2, ⟨rfl, -, -⟩, -, hy2⟩ := (hv.next stab_RI hTr).at hjm
        rw [hy] at hy2
        injection hy2 with hy2
        subst hy2
        have hj1 : (j : Int) < (m0 : Int) := by omega
        have hj0 : (0 : Int) ≤ (j : Int) := by omega
        have HEK : Hid (E k = y :: E (k + 1)) := he
        clear he hA hB hy
        go_wp2_with (at_builtin; refine app1 wr rfl _ _ 25 3 rfl (.int .i64 0) 8 Tryz.underlying25 info_int rfl (by decide) w0.heap.size q c1 A1 _ rfl hown (.int .i64 (y : Int)) rfl rfl (by omega) (by omega) ?_; intro A2 c2 w2 hown2 hg2 hb2)
        go_roundw
        case rel => exact ⟨k, q + 1, A2, c2, by omega, by go_num, rfl, by rw [HEK.out, List.length_cons, ← HQ.out], by rw [HEK.out, List.reverse_cons, nats_app, ints_app]; exact hown2, hTr.trans hb2⟩
        case measure => simp [intOf]; try omega
      · obtain ⟨ar, tb, u, hob, hjl, h3, hroom, hdl, htu, huN, he⟩ := hB (by omega)
        clear hA hB
        obtain ⟨j, hj⟩ : ∃ j, j = (-1 - v).toNat := ⟨_, rfl⟩
        rw [← hj] at hob hjl
        have hjm : j < m := by rw [← HML.out]; exact hjl
        obtain ⟨b2, o2, vs, y, rfl, -, hc2, hr2, -, hy⟩ := (qo.next hTr).at hjm
        rw [hob] at hy
        injection hy with hy
        subst hy
        obtain ⟨B', m', d', rfl, -, qt⟩ := rdOp hr2
        have cc0 : wr.cell? ⟨b2, o2 + j * 2, none⟩ = some (.int .i64 (ar : Int)) := hc2 0 _ rfl
        have ej : (-1 : Int) - v = (j : Int) := by omega
        have hj0 : (0 : Int) ≤ (j : Int) := by omega
        have hj1 : (j : Int) < (m : Int) := by omega
        have hvn : ¬ (0 : Int) ≤ v := h0v
        obtain ⟨S, HS⟩ : ∃ S, Hid (E (k + 1) = S) := ⟨_, rfl⟩
        rw [HS.out] at hroom hdl htu he hown
        have HEK := Lib.hid he
        have HQS : Hid (q = S.length) := by show _ = _; rw [HQ.out, HS.out]
        have har : ar ≤ q := by rw [HQS.out]; exact hroom
        have HDL := Lib.hid hdl
        have HTU := Lib.hid htu
        have HOB := Lib.hid hob
        obtain ⟨wo, HWO⟩ : ∃ wo : World, wo = wr := ⟨_, rfl⟩
        subst HWO
        have hbA := below_box wo (.cells #[] 3)
        have hownA : (wo.alloc (.cells #[] 3)).ownsRow wo.heap.size 3 1 (.slice (some ⟨wo.heap.size, 0, none⟩) 0 0) 0 [] := World.ownsRow_lit wo #[] 0 (Nat.le_refl _) (Nat.zero_le _) rfl
        clear hob hjl hj hr2 hc2 qt hroom hdl htu he HQ
        go_wp2_with fail
        go_loopw [10, 11] (fun ag kk wi => ∃ (p : Nat) (A2 : Option Addr) (c2 : Nat), p ≤ ar ∧ kk = .int .i64 p ∧ ag = .slice A2 p c2 ∧ wi.ownsRow wo.heap.size 3 1 (.slice A2 p c2) p (ints (nats (S.take p))) ∧ Below wo.heap.size wo wi) (fun _ kk _ => ar - (intOf kk).toNat)
        case atStart => exact ⟨0, _, _, Nat.zero_le _, rfl, rfl, hownA, hbA⟩
        case round =>
          clear hownA hbA
          obtain ⟨p, A2, c2, hp, rfl, rfl, hownA, hTi⟩ := hrel
          have cc0 := keepc hTi cc0
          have cP0 := keepc hTi cP0
          have cP1 := keepc hTi cP1
          have hown2 := own_next hown hTi
          have hzi := hTi.size
          by_cases hlt : p < ar
          · have hpl : p < S.length := by have := HQS.out; omega
            have hSp : S[p]? = some S[p] := List.getElem?_eq_getElem hpl
            generalize S[p] = d at hSp
            have HTK : Hid (S.take (p + 1) = S.take p ++ [d]) := by show _ = _; rw [List.take_add_one, hSp]; rfl
            obtain ⟨g, rfl, -, -⟩ := own_form hown2 (by omega)
            obtain ⟨r, hr⟩ : ∃ r, r = q - 1 - p := ⟨_, rfl⟩
            have hcr := hown2.cellAt r (by omega)
            rw [hr, HQS.out, rev_get hSp, ← HQS.out, ← hr] at hcr
            have er : (q : Int) - 1 - (p : Int) = (r : Int) := by omega
            have hr0 : (0 : Int) ≤ (r : Int) := by omega
            have hr1 : (r : Int) < (q : Int) := by omega
            have hp1 : (p : Int) < (ar : Int) := by omega
            have hp0 : (0 : Int) ≤ (p : Int) := by omega
            clear hSp hr hown2
            go_wp2_with (at_builtin; refine app1 _ rfl _ _ 25 3 rfl (.int .i64 0) 8 Tryz.underlying25 info_int rfl (by decide) _ p c2 A2 _ rfl hownA (.int .i64 (d : Int)) rfl rfl (by omega) (by omega) ?_; intro A3 c3 w3 hown3 hg3 hb3)
            go_roundw
            case rel => exact ⟨p + 1, A3, c3, by omega, by go_num, rfl, by rw [HTK.out, nats_app, ints_app]; exact hown3, hTi.trans hb3⟩
            case measure => simp [intOf]; try omega
          · obtain rfl : p = ar := by omega
            have hp1 : ¬ (p : Int) < (p : Int) := by omega
            obtain ⟨s, hs⟩ : ∃ s, s = q - p := ⟨_, rfl⟩
            have hown3 := own_take hown2 (k := s) (by omega)
            rw [ints_take, nats_take, show s = S.length - p by rw [hs, HQS.out], take_rev, ← show s = S.length - p by rw [hs, HQS.out]] at hown3
            have hqc := sort_cap hown2
            have es : (q : Int) - (p : Int) = (s : Int) := by omega
            have hs0 : (0 : Int) ≤ (s : Int) := by omega
            have hs1 : (s : Int) ≤ (c1 : Int) := by omega
            have hs2 : (s : Int) ≤ (q : Int) := by omega
            have hs60 : s ≤ 60 := by omega
            have hws2 : IntKind.i64.wrap (s : Int) = (s : Int) := by rw [IntKind.wrap_i64]; omega
            have HSL : Hid (s + 1 = (E k).length) := by show _ = _; rw [HEK.out, List.length_cons, List.length_drop, hs, HQS.out]
            have hubd : -9223372036854775808 ≤ (u : Int) ∧ (u : Int) ≤ 9223372036854775807 := by omega
            have HUB := Lib.hid hubd
            have HDB : Hid (∀ v ∈ nats (S.drop p).reverse, -9223372036854775808 ≤ v ∧ v ≤ 9223372036854775807) := fun v hv => by
              obtain ⟨dd, hdd, rfl⟩ := List.mem_map.1 hv
              have := HDL.out dd (List.mem_of_mem_drop (List.mem_reverse.1 hdd))
              omega
            have HDA : Hid (∀ v ∈ nats (S.take p), -9223372036854775808 ≤ v ∧ v ≤ 9223372036854775807) := fun v hv => by
              obtain ⟨dd, hdd, rfl⟩ := List.mem_map.1 hv
              have := HDL.out dd (List.mem_of_mem_take hdd)
              omega
            have r1 := rd_of_own (R := RI) hown3 (RI_ints HDB.out)
            have r2 := rd_of_own (R := RI) hownA (RI_ints HDA.out)
            have HC1 := Lib.hid fun (wz : World) (hz : Below wr.heap.size wr wz) => l1Own_any A1 s c1 _ wz (r1.next stab_RI hz) (by omega)
            have HC2 := Lib.hid fun (wz : World) (hz : Below wr.heap.size wr wz) => l2Value_any [.int .i64 (N : Int), .slice (some ⟨b2, o2, none⟩) m d] ((N : Int), ops) A2 p c2 j N p u (S.take p) tb wz (HRD.out wz ((below_next hTr hTi rfl).trans (hz.mono (Nat.le_trans hzr hzi)))) rfl hN8 (r2.next stab_RI hz) (fun dd hdd => HDL.out dd (List.mem_of_mem_take hdd)) (by omega) HOB.out HTU.out
            have HZ : Hid (w0.heap.size ≤ wr.heap.size) := Nat.le_trans hzr hzi
            have T := below_next hTr hTi rfl
            have KP0 : Hid (∀ wz, Below wr.heap.size wr wz → wz.cell? ⟨w.heap.size, 0, none⟩ = some (.int .i64 (N : Int))) := fun wz hz => keepc hz cP0
            have KP1 : Hid (∀ wz, Below wr.heap.size wr wz → wz.cell? ⟨w.heap.size, 1, none⟩ = some (.slice (some ⟨b2, o2, none⟩) m d)) := fun wz hz => keepc hz cP1
            have Tk : Below wr.heap.size wr wr := Below.refl _ _
            clear hs hown3 r1 r2 hown2 hubd
            go_wp2_with fail
            go_region_law (first
              | (go_simp; go_at_call 74; (with_reducible refine (HC1.out _ ?_).mono ?_); (first | exact Tk | exact below_drewN Tk _ | exact Tk.alloc Tk.size _ | exact (below_drewN Tk _).alloc Tk.size _); rintro e w5 ⟨A5, c5, rfl, ho5, hb5⟩; replace ho5 := own_mono (base' := w0.heap.size) ho5 (Nat.le_trans HZ.out (by first | exact Tk.size | exact (Tk.alloc Tk.size _).size)); replace Tk := below_next (by first | exact Tk | exact below_drewN Tk _ | exact Tk.alloc Tk.size _ | exact (below_drewN Tk _).alloc Tk.size _) hb5 rfl; have cQ0 := KP0.out _ Tk; have cQ1 := KP1.out _ Tk)
              | (go_simp; go_at_call 102; (with_reducible refine (HC2.out _ ?_).mono ?_); (first | exact Tk | exact below_drewN Tk _); rintro e w6 ⟨rfl, hb6⟩; replace Tk := below_next (by first | exact Tk | exact below_drewN Tk _) hb6 rfl; (try replace ho5 := own_next (w' := w6) (by exact ho5) hb6))
              | (refine step_appAny (R := RI) _ rfl (.tmp 69) (.tmp 74) 25 3 rfl (.int .i64 0) 8 Tryz.underlying25 info_int rfl (by decide) w0.heap.size s c5 A5 (ints (nats (S.drop p).reverse)) (by rfl) (by first | exact ho5 | exact ho5.alloc _) (some ⟨w6.heap.size, 0, none⟩) 1 1 [(u : Int)] (fun y => .int .i64 y) (fun _ => rfl) (by rfl) (by first | exact rd_oneX (cell_new _ (by rfl)) HUB.out | exact (rd_oneX (cell_new _ (by rfl)) HUB.out).next stab_RI hb5) (fun _ _ _ hr => hr.1) (by omega) (Nat.le_trans HZ.out (by first | exact Tk.size | exact (Tk.alloc Tk.size _).size)) ?_; intro A7 c7 w7 hown7 hg7 hb7; have T7 : Below w0.heap.size w0 w7 := (by first | exact ((below_next T Tk rfl)).trans hb7 | exact (below_drewN (below_next T Tk rfl) _).trans hb7 | exact ((below_next T Tk rfl).alloc (Nat.le_trans HZ.out Tk.size) _).trans hb7 | exact ((below_drewN (below_next T Tk rfl) _).alloc (Nat.le_trans HZ.out Tk.size) _).trans hb7))
              | (refine step_appAny (R := RI) _ rfl (.tmp 69) (.tmp 74) 25 3 rfl (.int .i64 0) 8 Tryz.underlying25 info_int rfl (by decide) w0.heap.size s c5 A5 (ints (nats (S.drop p).reverse)) (by rfl) (by first | exact ho5 | exact ho5.alloc _) (some ⟨w5.heap.size, 0, none⟩) 1 1 [(u : Int)] (fun y => .int .i64 y) (fun _ => rfl) (by rfl) (by first | exact rd_oneX (cell_new _ (by rfl)) HUB.out) (fun _ _ _ hr => hr.1) (by omega) (Nat.le_trans HZ.out (by first | exact Tk.size | exact (Tk.alloc Tk.size _).size)) ?_; intro A7 c7 w7 hown7 hg7 hb7; have T7 : Below w0.heap.size w0 w7 := (by first | exact ((below_next T Tk rfl)).trans hb7 | exact (below_drewN (below_next T Tk rfl) _).trans hb7 | exact ((below_next T Tk rfl).alloc (Nat.le_trans HZ.out Tk.size) _).trans hb7 | exact ((below_drewN (below_next T Tk rfl) _).alloc (Nat.le_trans HZ.out Tk.size) _).trans hb7)))
            all_goals
              go_wp2_with fail
              go_roundw
              case rel => exact ⟨k, s + 1, A7, c7, by omega, by go_num, rfl, HSL.out, by rw [HEK.out, List.reverse_cons, nats_app, ints_app]; exact hown7, T7⟩
              case measure => simp [intOf]; try omega
end Go.Proofs.YtidjocikbmkjbaaGreat
