
/- Walks: names of a catalogue; the order of its models. -/
import Derived.Test.YtppnmpeicmlneaaHSF2
import Derived.Test.YtppnmpeicmlneaaGrp
import Derived.Test.YtppnmpeicmlneaaMapS
namespace Go.Proofs.Ytppnmpeicmlneaa
open Go.RowKit

/-! ## Names -/
def lowB (c : UInt8) : Bool := decide (97 ≤ (c.toNat : Int)) && decide ((c.toNat : Int) ≤ 122)
def allLow : List UInt8 → Bool
  | [] => true
  | c :: l => lowB c && allLow l
def nameB (s : ByteArray) : Bool := allLow (bs s) && inB s.size 1 10
def LowAt (s : ByteArray) (k : Nat) : Prop := allLow ((bs s).drop k) = allLow (bs s)
theorem LowAt.step {s : ByteArray} {k : Nat} (h : LowAt s k) (hk : k < s.size) (ho : lowB s[k] = true) : LowAt s (k + 1) := by
  unfold LowAt at *; rw [drop_cons s k hk] at h; rw [← h]; simp [allLow, ho]
theorem LowAt.stop {s : ByteArray} {k : Nat} (h : LowAt s k) (hk : k < s.size) (ho : lowB s[k] = false) : false = nameB s := by
  unfold LowAt at *; rw [drop_cons s k hk] at h; unfold nameB; rw [← h]; simp [allLow, ho]
theorem LowAt.done {s : ByteArray} {k : Nat} (h : LowAt s k) (hk : ¬ k < s.size) : inB s.size 1 10 = nameB s := by
  unfold LowAt at *; rw [drop_end s k hk] at h; unfold nameB; rw [← h]; rfl
theorem name_big {s : ByteArray} (h : 11 ≤ s.size) : inB s.size 1 10 = nameB s := by
  have e : inB s.size 1 10 = false := by unfold inB; simp; omega
  unfold nameB
  rw [e, Bool.and_false]
set_option maxHeartbeats 400000 in
theorem isName_any (s : ByteArray) (w : World) (hs : s.size ≤ maxLen) :
    Calls Try.prog 99 #[.string s] w fun e w' => e = .returned (.bool (nameB s)) ∧ w = w' := by
  unfold maxLen at hs
  go_enter Try.func99, Try.ntmps99
  go_wp2
  go_loop [3] (fun i => ∃ k : Nat, k ≤ s.size ∧ i = .int .i64 k ∧ LowAt s k) (fun i => s.size - (intOf i).toNat)
  case atStart => exact ⟨0, Nat.zero_le _, rfl, rfl⟩
  case round =>
    obtain ⟨k, hk, rfl, H⟩ := hrel
    by_cases hlt : k < s.size
    · by_cases h1 : (s[k].toNat : Int) < 97
      · go_wp2
        go_ret
        exact ⟨ret_bool (H.stop hlt (by unfold lowB; simp; omega)), rfl⟩
      · by_cases h2 : 122 < (s[k].toNat : Int)
        · go_wp2
          go_ret
          exact ⟨ret_bool (H.stop hlt (by unfold lowB; simp; omega)), rfl⟩
        · go_wp2
          go_round
          case rel => exact ⟨k + 1, by omega, by go_num, H.step hlt (by unfold lowB; simp; omega)⟩
          case measure => simp [intOf]; omega
    · obtain rfl : k = s.size := by omega
      by_cases h1 : 1 ≤ (s.size : Int)
      all_goals
        go_wp2
        go_ret
        exact ⟨ret_bool (by rw [← H.done hlt]; unfold inB; simp; omega), rfl⟩
set_option maxHeartbeats 400000 in
theorem l31Name_any (s : ByteArray) (w : World) (hs : s.size ≤ maxLen) :
    Calls Try.prog 126 #[.string s] w fun e w' => e = .returned (.bool (nameB s)) ∧ w = w' := by
  unfold maxLen at hs
  go_enter Try.func126, Try.ntmps126
  go_wp2
  go_loop [3] (fun i => ∃ k : Nat, k ≤ s.size ∧ k ≤ 11 ∧ i = .int .i64 k ∧ LowAt s k) (fun i => s.size - (intOf i).toNat)
  case atStart => exact ⟨0, Nat.zero_le _, by omega, rfl, rfl⟩
  case round =>
    obtain ⟨k, hk, hk2, rfl, H⟩ := hrel
    have hle : (s.size : Int) ≤ 9223372036854775807 := by omega
    by_cases hlt : k < s.size
    · by_cases h11 : k < 11
      · have hb : wrap64 (s[k].toNat : Int) = s[k].toNat := byte64 _
        obtain ⟨r, hr⟩ : ∃ r, lowB s[k] = r := ⟨_, rfl⟩
        have HR : Hid (inB (wrap64 (s[k].toNat : Int)) 97 122 = r) := by show _ = _; rw [hb, ← hr]; rfl
        have HR' := Lib.hid hr
        clear hr hb
        rcases r with _ | _
        · go_wp2_with (go_at_call 66; refine (l1In_any _ _ _ _).mono ?_; rintro e w' ⟨rfl, rfl⟩; rw [HR.out])
          go_ret
          exact ⟨ret_bool (H.stop hlt HR'.out), rfl⟩
        · go_wp2_with (go_at_call 66; refine (l1In_any _ _ _ _).mono ?_; rintro e w' ⟨rfl, rfl⟩; rw [HR.out])
          go_round
          case rel => exact ⟨k + 1, by omega, by omega, by go_num, H.step hlt HR'.out⟩
          case measure => simp [intOf]; omega
      · go_wp2_with (go_at_call 66; refine (l1In_any _ _ _ _).mono ?_; rintro e w' ⟨rfl, rfl⟩)
        go_ret
        exact ⟨ret_bool (name_big (by omega)), rfl⟩
    · obtain rfl : k = s.size := by omega
      go_wp2_with (go_at_call 66; refine (l1In_any _ _ _ _).mono ?_; rintro e w' ⟨rfl, rfl⟩)
      go_ret
      exact ⟨ret_bool (H.done hlt), rfl⟩

/-! ## The order -/
set_option maxHeartbeats 400000 in
theorem l31Compare_any (A B : Option Addr) (n m c d : Nat) (xs ys : List Int) (w : World) (h : RdL RI w A n xs) (h' : RdL RI w B m ys) :
    Calls Try.prog 138 #[.slice A n c, .slice B m d] w (Qt w (.int .i64 (lexL xs ys))) := by
  have hle := h.le
  have hle' := h'.le
  have hx := Lib.hid h.len
  have hy := Lib.hid h'.len
  go_enter Try.func138, Try.ntmps138
  go_wp2
  go_loopw [5] (fun i wr => ∃ k : Nat, k ≤ n ∧ k ≤ m ∧ i = .int .i64 k ∧ At2 lexL xs ys k ∧ Drawn w wr) (fun i _ => n - (intOf i).toNat)
  case atStart => exact ⟨0, Nat.zero_le _, Nat.zero_le _, rfl, rfl, Drawn.zero _⟩
  case round =>
    obtain ⟨k, hk, hk', rfl, H, z, rfl⟩ := hrel
    by_cases hlt : k < n
    · by_cases hlt' : k < m
      · obtain ⟨b, o, v, x, rfl, hc, ⟨rfl, -⟩, hd, -⟩ := h.at hlt
        obtain ⟨b', o', v', y, rfl, hc', ⟨rfl, -⟩, hd', -⟩ := h'.at hlt'
        have H1 := Lib.hid hd
        have H2 := Lib.hid hd'
        clear hd hd'
        by_cases hxy : x < y
        · have HE : Hid ((x == y) = false) := by simp [Hid]; omega
          go_wp2
          go_quiet (fail)
          go_wp2
          go_ret
          exact ⟨ret_int (H.stop H1.out H2.out (by rw [lexL, HE.out, if_neg (by decide), if_pos (by assumption)])), (by first | exact Drawn.zero _ | exact Drawn.at_ _ _ | exact (Drawn.at_ _ _).more _ | exact ((Drawn.at_ _ _).more _).more _)⟩
        · by_cases hyx : y < x
          · have HE : Hid ((x == y) = false) := by simp [Hid]; omega
            go_wp2
            go_quiet (fail)
            go_wp2
            go_quiet (fail)
            go_wp2
            go_ret
            exact ⟨ret_int (H.stop H1.out H2.out (by rw [lexL, HE.out, if_neg (by decide), if_neg (by omega)])), (by first | exact Drawn.zero _ | exact Drawn.at_ _ _ | exact (Drawn.at_ _ _).more _ | exact ((Drawn.at_ _ _).more _).more _)⟩
          · have HE : Hid ((x == y) = true) := by simp [Hid]; omega
            go_wp2
            go_quiet (fail)
            go_wp2
            go_quiet (fail)
            go_wp2
            go_roundw
            case rel => exact ⟨k + 1, by omega, by omega, by go_num, H.step H1.out H2.out (by rw [lexL, HE.out, if_pos rfl]), (by first | exact Drawn.zero _ | exact Drawn.at_ _ _ | exact (Drawn.at_ _ _).more _ | exact ((Drawn.at_ _ _).more _).more _)⟩
            case measure => simp [intOf]; omega
      · go_wp2
        all_goals
          go_ret
          exact ⟨ret_int (H.done rfl rfl (by rw [lexL_ends hx.out hy.out (by omega) hk hk']; first | rw [if_pos (by omega)] | rw [if_neg (by omega), if_pos (by omega)] | rw [if_neg (by omega), if_neg (by omega)])), (by first | exact Drawn.zero _ | exact Drawn.at_ _ _ | exact (Drawn.at_ _ _).more _ | exact ((Drawn.at_ _ _).more _).more _)⟩
    · go_wp2
      all_goals
        go_ret
        exact ⟨ret_int (H.done rfl rfl (by rw [lexL_ends hx.out hy.out (by omega) hk hk']; first | rw [if_pos (by omega)] | rw [if_neg (by omega), if_pos (by omega)] | rw [if_neg (by omega), if_neg (by omega)])), (by first | exact Drawn.zero _ | exact Drawn.at_ _ _ | exact (Drawn.at_ _ _).more _ | exact ((Drawn.at_ _ _).more _).more _)⟩

set_option maxRecDepth 20000 in
set_option maxHeartbeats 4000000 in
theorem typeOf_any (cs : List Value) (x : AlgebraM) (w : World) (h : shAlgebra.rd w cs x) (hn : x.2.length ≤ 1048576) :
    Calls Try.prog 128 #[.agg cs.toArray] w (fun e w' => ∃ A c, e = .returned (.slice A x.2.length c) ∧ RdL RI w' A x.2.length (tyL x.2) ∧ Below w.heap.size w w') := by
  obtain ⟨B, m, d, rfl, qs, qo⟩ := rdAlgebra h
  obtain rfl : x.2.length = m := qo.len
  have HTR := Lib.hid (tyL_R qo)
  have hle := qo.le
  obtain ⟨w0, hw0, T0, hsz0, BP⟩ := boxes1 w #[.int .i64 x.1, .slice B x.2.length d] 41
  have hown0 := lit_below T0
  have T1 := below_next T0 (below_box w0 (.cells #[] 3)) rfl
  obtain ⟨w1, hw1⟩ : ∃ wb, wb = w0.alloc (.cells #[] 3) := ⟨_, rfl⟩
  rw [← hw1] at hown0 T1
  rw [hsz0] at hown0
  have HW : Hid (w1 = (w.alloc (.cells #[.int .i64 x.1, .slice B x.2.length d] 41)).alloc (.cells #[] 3)) := by show _ = _; rw [hw1, hw0]
  clear hw0 hw1 T0 hsz0 BP
  go_enter Try.func128, Try.ntmps128
  go_wp2_with fail
  rw [← HW.out]
  go_loopw [3, 5, 10] (fun v _ i wr => ∃ (k : Nat) (A : Option Addr) (c : Nat), k ≤ x.2.length ∧ i = .int .i64 k ∧ v = .slice A k c ∧ wr.ownsRow w.heap.size 3 1 (.slice A k c) k (ints ((tyL x.2).take k)) ∧ Below w.heap.size w wr) (fun _ _ i _ => x.2.length - (intOf i).toNat)
  case atStart => exact ⟨0, _, _, Nat.zero_le _, rfl, rfl, hown0, T1⟩
  case round =>
    clear hown0 T1
    obtain ⟨k, A, c, hk, rfl, rfl, hown, hTw⟩ := hrel
    have q' := qo.next hTw
    by_cases hlt : k < x.2.length
    · obtain ⟨b, o, vs, u, rfl, -, hc, hr, -, hxu⟩ := q'.at hlt
      obtain ⟨B', m', d', rfl, qa, qt⟩ := rdOp hr
      have cc0 : wr.cell? ⟨b, o + k * 2, none⟩ = some (.int .i64 u.1) := hc 0 _ rfl
      have cc1 : wr.cell? ⟨b, o + k * 2 + 1, none⟩ = some (.slice B' m' d') := hc 1 _ rfl
      obtain ⟨wb, HWB⟩ : ∃ wb, Hid (wb = wr.alloc (.cells #[.int .i64 u.1, .slice B' m' d'] 102)) := ⟨_, rfl⟩
      have hb1 : Below wr.heap.size wr wb := by rw [HWB.out]; exact below_box _ _
      have BN : Blk wb wr.heap.size 102 #[.int .i64 u.1, .slice B' m' d'] := by rw [HWB.out]; exact Blk.new _ _ _
      have cN0 := BN.cell 0
      simp at cN0
      have hown1 := own_next hown hb1
      have hTw1 := below_next hTw hb1 rfl
      have hbase := hTw1.size
      have HS := Lib.hid (tyL_snoc hxu)
      clear hc hxu hb1
      have hk0 : (0 : Int) ≤ (k : Int) := by omega
      have hk1 : (k : Int) < (x.2.length : Int) := by omega
      go_upto_region 5 with fail
      rw [← HWB.out]
      go_wp2_with (at_builtin; refine app1 wb rfl _ _ 22 3 rfl (.int .i64 0) 8 Try.underlying22 info_int rfl (by decide) w.heap.size k c A (ints ((tyL x.2).take k)) rfl hown1 (.int .i64 u.1) rfl rfl (by omega) hbase ?_; intro A2 c2 w2 hown2 hg2 hb2)
      go_roundw
      case rel => exact ⟨k + 1, A2, c2, by omega, by go_num, rfl, by rw [HS.out, ints_snoc]; exact hown2, hTw1.trans hb2⟩
      case measure => simp [intOf]; omega
    · have hke : k = x.2.length := by omega
      have hlt' : ¬ (k : Int) < (x.2.length : Int) := by omega
      have HRR : Hid (RdL RI wr A x.2.length (tyL x.2)) := by
        show RdL _ _ _ _ _
        rw [hke, List.take_of_length_le (by rw [tyL_len]; exact Nat.le_refl _)] at hown
        exact rd_of_own (R := RI) hown (RI_ints HTR.out)
      have HK := Lib.hid hke
      clear hke
      go_wp2_with fail
      go_ret
      exact ⟨A, ⟨c, by rw [← HK.out]; rfl⟩, HRR.out, hTw⟩

/-- A model before another one: by the size, the type, the code. -/
def cmpI (x y : AlgebraM) : Int := if x.1 == y.1 then (if lexL (tyL x.2) (tyL y.2) == 0 then lexL (codeL x.2) (codeL y.2) else lexL (tyL x.2) (tyL y.2)) else x.1 - y.1
theorem lexL_bd : ∀ xs ys : List Int, -1 ≤ lexL xs ys ∧ lexL xs ys ≤ 1
  | [], [] => by simp [lexL]
  | [], _ :: _ => by simp [lexL]
  | _ :: _, [] => by simp [lexL]
  | x :: l, y :: m => by
    rw [lexL]
    split
    · exact lexL_bd l m
    · split <;> omega
theorem lexL_zero : ∀ {xs ys : List Int}, lexL xs ys = 0 ↔ xs = ys
  | [], [] => by simp [lexL]
  | [], _ :: _ => by simp [lexL]
  | _ :: _, [] => by simp [lexL]
  | x :: l, y :: m => by
    rw [lexL]
    split
    · rename_i h
      have h := eq_of_beq h
      rw [lexL_zero, h]
      simp
    · rename_i h
      have h' : ¬ x = y := fun e => h (by simp [e])
      split
      · simp [h']
      · simp [h']
theorem cmpI_zero {x y : AlgebraM} (hx : SmallP x) (hy : SmallP y) : cmpI x y = 0 ↔ x = y := by
  unfold cmpI
  constructor
  · intro h
    split at h
    · rename_i h1
      have h1 := eq_of_beq h1
      split at h
      · rename_i h2
        have h2 := lexL_zero.1 (eq_of_beq h2)
        exact Prod.ext h1 (code_eq (n := x.1.toNat) hx.2.2.2 (by rw [h1]; exact hy.2.2.2) h2 (lexL_zero.1 h))
      · rename_i h2
        exact absurd (by simp [h]) h2
    · rename_i h1
      exact absurd (by simp; omega) h1
  · rintro rfl
    have e1 : lexL (tyL x.2) (tyL x.2) = 0 := lexL_zero.2 rfl
    have e2 : lexL (codeL x.2) (codeL x.2) = 0 := lexL_zero.2 rfl
    simp [e1, e2]

set_option maxRecDepth 20000 in
set_option maxHeartbeats 8000000 in
theorem compareModels_any (cs ds : List Value) (x y : AlgebraM) (w : World) (h : shAlgebra.rd w cs x) (h' : shAlgebra.rd w ds y) (hx : SmallP x) (hy : SmallP y) :
    Calls Try.prog 100 #[.agg cs.toArray, .agg ds.toArray] w (Bl w (.int .i64 (cmpI x y))) := by
  have hrd := h
  have hrd' := h'
  obtain ⟨B, n, c, rfl, qs, qo⟩ := rdAlgebra h
  obtain ⟨D, m, d, rfl, qs', qo'⟩ := rdAlgebra h'
  obtain ⟨w0, hw0, T0, hsz0, BP, BQ⟩ := boxes2 w #[.int .i64 x.1, .slice B n c] #[.int .i64 y.1, .slice D m d] 41 41
  have HW0 := Lib.hid hw0
  have hx4 : x.2.length ≤ 1048576 := by have := hx.2.2.1; omega
  have hy4 : y.2.length ≤ 1048576 := by have := hy.2.2.1; omega
  have hcx := code_small hx
  have hcy := code_small hy
  have hx1 : 1 ≤ x.1 ∧ x.1 ≤ 5 := ⟨hx.1, hx.2.1⟩
  have hy1 : 1 ≤ y.1 ∧ y.1 ≤ 5 := ⟨hy.1, hy.2.1⟩
  have hxc : shAlgebra.cnt x ≤ 1048576 := by have := small_ops hx; show 0 + (x.2.length + cntS shOp.cnt x.2) ≤ _; omega
  have hyc : shAlgebra.cnt y ≤ 1048576 := by have := small_ops hy; show 0 + (y.2.length + cntS shOp.cnt y.2) ≤ _; omega
  have HRX := Lib.hid (code_R hx)
  have HRY := Lib.hid (code_R hy)
  have HC1 : ∀ wz, Below w0.heap.size w0 wz → Calls Try.prog 128 #[.agg #[.int .i64 x.1, .slice B n c]] wz (fun e w' => ∃ A c, e = .returned (.slice A x.2.length c) ∧ RdL RI w' A x.2.length (tyL x.2) ∧ Below wz.heap.size wz w') := fun wz hz =>
    typeOf_any [.int .i64 x.1, .slice B n c] x wz (shAlgebra.stab (shAlgebra.stab hrd T0.block) hz.block) hx4
  have HC2 : ∀ wz, Below w0.heap.size w0 wz → Calls Try.prog 128 #[.agg #[.int .i64 y.1, .slice D m d]] wz (fun e w' => ∃ A c, e = .returned (.slice A y.2.length c) ∧ RdL RI w' A y.2.length (tyL y.2) ∧ Below wz.heap.size wz w') := fun wz hz =>
    typeOf_any [.int .i64 y.1, .slice D m d] y wz (shAlgebra.stab (shAlgebra.stab hrd' T0.block) hz.block) hy4
  have HC3 : ∀ wz, Below w0.heap.size w0 wz → Calls Try.prog 75 #[.agg #[.int .i64 x.1, .slice B n c]] wz (fun e w' => ∃ A c, e = .returned (.slice A (codeL x.2).length c) ∧ RdL RI w' A (codeL x.2).length (codeL x.2) ∧ Below wz.heap.size wz w') := fun wz hz =>
    (codeOf_any [.int .i64 x.1, .slice B n c] x wz (shAlgebra.stab (shAlgebra.stab hrd T0.block) hz.block) hxc).mono fun e w' ⟨A, c, h1, h2, h3⟩ => ⟨A, c, h1, rd_of_own (R := RI) h2 (RI_ints HRX.out), h3⟩
  have HC4 : ∀ wz, Below w0.heap.size w0 wz → Calls Try.prog 75 #[.agg #[.int .i64 y.1, .slice D m d]] wz (fun e w' => ∃ A c, e = .returned (.slice A (codeL y.2).length c) ∧ RdL RI w' A (codeL y.2).length (codeL y.2) ∧ Below wz.heap.size wz w') := fun wz hz =>
    (codeOf_any [.int .i64 y.1, .slice D m d] y wz (shAlgebra.stab (shAlgebra.stab hrd' T0.block) hz.block) hyc).mono fun e w' ⟨A, c, h1, h2, h3⟩ => ⟨A, c, h1, rd_of_own (R := RI) h2 (RI_ints HRY.out), h3⟩
  have cP0 := BP.cell 0
  have cP1 := BP.cell 1
  have cQ0 := BQ.cell 0
  have cQ1 := BQ.cell 1
  simp at cP0 cP1 cQ0 cQ1
  clear hw0 hsz0 h h' qo qo'
  by_cases hxy : x.1 = y.1
  · have hne : (x.1 != y.1) = false := by simp [hxy]
    have HX0 : Hid ((x.1 == y.1) = true) := by show _ = _; simp [hxy]
    have hT0 := lexL_bd (tyL x.2) (tyL y.2)
    have hT1 := lexL_bd (codeL x.2) (codeL y.2)
    obtain ⟨t, HT⟩ : ∃ t, Hid (lexL (tyL x.2) (tyL y.2) = t) := ⟨_, rfl⟩
    obtain ⟨u, HU⟩ : ∃ u, Hid (lexL (codeL x.2) (codeL y.2) = u) := ⟨_, rfl⟩
    rw [HT.out] at hT0
    rw [HU.out] at hT1
    clear hxy
    go_enter Try.func100, Try.ntmps100
    go_upto_region 1 with fail
    rw [← HW0.out]
    have Tk : Below w0.heap.size w0 w0 := Below.refl _ _
    go_wp2_with fail
    go_cut [5] (fun v5 wx => v5 = .int .i64 t ∧ Below w0.heap.size w0 wx)
    case first =>
      go_region_held3 (fun w' => w'.cell? ⟨w.heap.size, 0, none⟩ = some (.int .i64 x.1) ∧ w'.cell? ⟨w.heap.size, 1, none⟩ = some (.slice B n c) ∧ w'.cell? ⟨w.heap.size + 1, 0, none⟩ = some (.int .i64 y.1) ∧ w'.cell? ⟨w.heap.size + 1, 1, none⟩ = some (.slice D m d)) (first | go_keep | exact ⟨keepc Tk cP0, keepc Tk cP1, keepc Tk cQ0, keepc Tk cQ1⟩) (first
        | (go_at_call 128; (with_reducible refine (HC1 _ ?_).mono ?_); (first | exact Tk | exact Below.drew Tk); rintro e wn ⟨A1, c1, rfl, R1, hbn⟩; (try replace R2 := (by first | exact R2.next stab_RI hbn | exact (R2.drew stab_RI).next stab_RI hbn)); replace Tk := below_next (by first | exact Tk | exact Below.drew Tk) hbn rfl)
        | (go_at_call 128; (with_reducible refine (HC2 _ ?_).mono ?_); (first | exact Tk | exact Below.drew Tk); rintro e wn ⟨A2, c2, rfl, R2, hbn⟩; (try replace R1 := (by first | exact R1.next stab_RI hbn | exact (R1.drew stab_RI).next stab_RI hbn)); replace Tk := below_next (by first | exact Tk | exact Below.drew Tk) hbn rfl)
        | (go_at_call 124; refine (compareLists_any _ _ _ _ _ _ _ _ _ (by first | exact R1 | exact R1.drew stab_RI) (by first | exact R2 | exact R2.drew stab_RI)).mono ?_; rintro e wm ⟨rfl, z, rfl⟩; rw [HT.out]; replace Tk := below_drewN (by first | exact Tk | exact Below.drew Tk) z))
      all_goals
        go_wp2_with fail
        go_meet
        exact ⟨rfl, by first | exact Tk | exact Below.drew Tk⟩
    case rest =>
      obtain ⟨rfl, hbc⟩ := hcut
      obtain ⟨w1, HWC⟩ : ∃ wq : World, wq = wc := ⟨_, rfl⟩
      subst HWC
      have hT := below_next T0 hbc rfl
      clear Tk
      by_cases ht0 : t = 0
      · have hne2 : (t != 0) = false := by simp [ht0]
        have HX1 : Hid ((t == 0) = true) := by show _ = _; simp [ht0]
        have Tk := hbc
        have dP0 := keepc hbc cP0
        have dP1 := keepc hbc cP1
        have dQ0 := keepc hbc cQ0
        have dQ1 := keepc hbc cQ1
        clear ht0
        go_wp2_with fail
        go_cut [4] (fun v4 wx => v4 = (.int .i64 u) ∧ Below w0.heap.size w0 wx)
        case first =>
          go_region_held3 (fun w' => w'.cell? ⟨w.heap.size, 0, none⟩ = some (.int .i64 x.1) ∧ w'.cell? ⟨w.heap.size, 1, none⟩ = some (.slice B n c) ∧ w'.cell? ⟨w.heap.size + 1, 0, none⟩ = some (.int .i64 y.1) ∧ w'.cell? ⟨w.heap.size + 1, 1, none⟩ = some (.slice D m d)) (first | go_keep | exact ⟨keepc Tk cP0, keepc Tk cP1, keepc Tk cQ0, keepc Tk cQ1⟩) (first
            | (go_at_call 75; (with_reducible refine (HC3 _ ?_).mono ?_); (first | exact Tk | exact Below.drew Tk); rintro e wn ⟨A1, c1, rfl, R1, hbn⟩; (try replace R2 := (by first | exact R2.next stab_RI hbn | exact (R2.drew stab_RI).next stab_RI hbn)); replace Tk := below_next (by first | exact Tk | exact Below.drew Tk) hbn rfl)
            | (go_at_call 75; (with_reducible refine (HC4 _ ?_).mono ?_); (first | exact Tk | exact Below.drew Tk); rintro e wn ⟨A2, c2, rfl, R2, hbn⟩; (try replace R1 := (by first | exact R1.next stab_RI hbn | exact (R1.drew stab_RI).next stab_RI hbn)); replace Tk := below_next (by first | exact Tk | exact Below.drew Tk) hbn rfl)
            | (go_at_call 124; refine (compareLists_any _ _ _ _ _ _ _ _ _ (by first | exact R1 | exact R1.drew stab_RI) (by first | exact R2 | exact R2.drew stab_RI)).mono ?_; rintro e wm ⟨rfl, z, rfl⟩; rw [HU.out]; replace Tk := below_drewN (by first | exact Tk | exact Below.drew Tk) z))
          all_goals
            go_wp2_with fail
            go_meet
            exact ⟨rfl, by first | exact Tk | exact Below.drew Tk⟩
        case rest =>
          obtain ⟨rfl, hbd⟩ := hcut
          have hT2 := below_next T0 hbd rfl
          go_wp2_with fail
          go_ret
          exact ⟨by show Ending.returned (.int .i64 u) = _; rw [show cmpI x y = _ from by unfold cmpI; rw [HX0.out, if_pos rfl, HT.out, HX1.out, if_pos rfl, HU.out]], hT2⟩
      · have hne2 : (t != 0) = true := by simp [ht0]
        have HX1 : Hid ((t == 0) = false) := by show _ = _; simp [ht0]
        clear ht0
        go_wp2_with fail
        go_ret
        exact ⟨by show Ending.returned (.int .i64 t) = _; rw [show cmpI x y = _ from by unfold cmpI; rw [HX0.out, if_pos rfl, HT.out, HX1.out, if_neg (by decide)]], hT⟩
  · have hne : (x.1 != y.1) = true := by simp [hxy]
    have HX0 : Hid ((x.1 == y.1) = false) := by show _ = _; simp [hxy]
    clear hxy
    go_enter Try.func100, Try.ntmps100
    go_upto_region 1 with fail
    rw [← HW0.out]
    go_wp2_with fail
    go_ret
    exact ⟨by show Ending.returned (.int .i64 (x.1 - y.1)) = _; rw [show cmpI x y = _ from by unfold cmpI; rw [HX0.out, if_neg (by decide)]], T0⟩
def befB (x y : AlgebraM) : Bool := if x.1 == y.1 then (if lexL (tyL x.2) (tyL y.2) == 0 then decide (lexL (codeL x.2) (codeL y.2) < 0) else decide (lexL (tyL x.2) (tyL y.2) < 0)) else decide (x.1 < y.1)
theorem befB_cmp (x y : AlgebraM) : befB x y = decide (cmpI x y < 0) := by
  unfold befB cmpI
  split
  · split <;> rfl
  · exact decide_eq_decide.2 (by omega)
set_option maxRecDepth 20000 in
set_option maxHeartbeats 8000000 in
theorem l31Before_any (cs ds : List Value) (x y : AlgebraM) (w : World) (h : shAlgebra.rd w cs x) (h' : shAlgebra.rd w ds y) (hx : SmallP x) (hy : SmallP y) :
    Calls Try.prog 127 #[.agg cs.toArray, .agg ds.toArray] w (Bl w (.bool (befB x y))) := by
  have hrd := h
  have hrd' := h'
  obtain ⟨B, n, c, rfl, qs, qo⟩ := rdAlgebra h
  obtain ⟨D, m, d, rfl, qs', qo'⟩ := rdAlgebra h'
  obtain ⟨w0, hw0, T0, hsz0, BP, BQ⟩ := boxes2 w #[.int .i64 x.1, .slice B n c] #[.int .i64 y.1, .slice D m d] 41 41
  have HW0 := Lib.hid hw0
  have hx4 : x.2.length ≤ 1048576 := by have := hx.2.2.1; omega
  have hy4 : y.2.length ≤ 1048576 := by have := hy.2.2.1; omega
  have hcx := code_small hx
  have hcy := code_small hy
  have hx1 : 1 ≤ x.1 ∧ x.1 ≤ 5 := ⟨hx.1, hx.2.1⟩
  have hy1 : 1 ≤ y.1 ∧ y.1 ≤ 5 := ⟨hy.1, hy.2.1⟩
  have hxc : shAlgebra.cnt x ≤ 1048576 := by have := small_ops hx; show 0 + (x.2.length + cntS shOp.cnt x.2) ≤ _; omega
  have hyc : shAlgebra.cnt y ≤ 1048576 := by have := small_ops hy; show 0 + (y.2.length + cntS shOp.cnt y.2) ≤ _; omega
  have HRX := Lib.hid (code_R hx)
  have HRY := Lib.hid (code_R hy)
  have HC1 : ∀ wz, Below w0.heap.size w0 wz → Calls Try.prog 133 #[.agg #[.int .i64 x.1, .slice B n c]] wz (fun e w' => ∃ A c, e = .returned (.slice A x.2.length c) ∧ RdL RI w' A x.2.length (tyL x.2) ∧ Below wz.heap.size wz w') := fun wz hz =>
    l2Type_any [.int .i64 x.1, .slice B n c] x wz (shAlgebra.stab (shAlgebra.stab hrd T0.block) hz.block) hx4
  have HC2 : ∀ wz, Below w0.heap.size w0 wz → Calls Try.prog 133 #[.agg #[.int .i64 y.1, .slice D m d]] wz (fun e w' => ∃ A c, e = .returned (.slice A y.2.length c) ∧ RdL RI w' A y.2.length (tyL y.2) ∧ Below wz.heap.size wz w') := fun wz hz =>
    l2Type_any [.int .i64 y.1, .slice D m d] y wz (shAlgebra.stab (shAlgebra.stab hrd' T0.block) hz.block) hy4
  have HC3 : ∀ wz, Below w0.heap.size w0 wz → Calls Try.prog 72 #[.agg #[.int .i64 x.1, .slice B n c]] wz (fun e w' => ∃ A c, e = .returned (.slice A (codeL x.2).length c) ∧ RdL RI w' A (codeL x.2).length (codeL x.2) ∧ Below wz.heap.size wz w') := fun wz hz =>
    (l31Code_any [.int .i64 x.1, .slice B n c] x wz (shAlgebra.stab (shAlgebra.stab hrd T0.block) hz.block) hxc).mono fun e w' ⟨A, c, h1, h2, h3⟩ => ⟨A, c, h1, rd_of_own (R := RI) h2 (RI_ints HRX.out), h3⟩
  have HC4 : ∀ wz, Below w0.heap.size w0 wz → Calls Try.prog 72 #[.agg #[.int .i64 y.1, .slice D m d]] wz (fun e w' => ∃ A c, e = .returned (.slice A (codeL y.2).length c) ∧ RdL RI w' A (codeL y.2).length (codeL y.2) ∧ Below wz.heap.size wz w') := fun wz hz =>
    (l31Code_any [.int .i64 y.1, .slice D m d] y wz (shAlgebra.stab (shAlgebra.stab hrd' T0.block) hz.block) hyc).mono fun e w' ⟨A, c, h1, h2, h3⟩ => ⟨A, c, h1, rd_of_own (R := RI) h2 (RI_ints HRY.out), h3⟩
  have cP0 := BP.cell 0
  have cP1 := BP.cell 1
  have cQ0 := BQ.cell 0
  have cQ1 := BQ.cell 1
  simp at cP0 cP1 cQ0 cQ1
  clear hw0 hsz0 h h' qo qo'
  by_cases hxy : x.1 = y.1
  · have hne : (x.1 != y.1) = false := by simp [hxy]
    have HX0 : Hid ((x.1 == y.1) = true) := by show _ = _; simp [hxy]
    have hT0 := lexL_bd (tyL x.2) (tyL y.2)
    have hT1 := lexL_bd (codeL x.2) (codeL y.2)
    obtain ⟨t, HT⟩ : ∃ t, Hid (lexL (tyL x.2) (tyL y.2) = t) := ⟨_, rfl⟩
    obtain ⟨u, HU⟩ : ∃ u, Hid (lexL (codeL x.2) (codeL y.2) = u) := ⟨_, rfl⟩
    rw [HT.out] at hT0
    rw [HU.out] at hT1
    clear hxy
    go_enter Try.func127, Try.ntmps127
    go_upto_region 1 with fail
    rw [← HW0.out]
    have Tk : Below w0.heap.size w0 w0 := Below.refl _ _
    go_wp2_with fail
    go_cut [5] (fun v5 wx => v5 = .int .i64 t ∧ Below w0.heap.size w0 wx)
    case first =>
      go_region_held3 (fun w' => w'.cell? ⟨w.heap.size, 0, none⟩ = some (.int .i64 x.1) ∧ w'.cell? ⟨w.heap.size, 1, none⟩ = some (.slice B n c) ∧ w'.cell? ⟨w.heap.size + 1, 0, none⟩ = some (.int .i64 y.1) ∧ w'.cell? ⟨w.heap.size + 1, 1, none⟩ = some (.slice D m d)) (first | go_keep | exact ⟨keepc Tk cP0, keepc Tk cP1, keepc Tk cQ0, keepc Tk cQ1⟩) (first
        | (go_at_call 133; (with_reducible refine (HC1 _ ?_).mono ?_); (first | exact Tk | exact Below.drew Tk); rintro e wn ⟨A1, c1, rfl, R1, hbn⟩; (try replace R2 := (by first | exact R2.next stab_RI hbn | exact (R2.drew stab_RI).next stab_RI hbn)); replace Tk := below_next (by first | exact Tk | exact Below.drew Tk) hbn rfl)
        | (go_at_call 133; (with_reducible refine (HC2 _ ?_).mono ?_); (first | exact Tk | exact Below.drew Tk); rintro e wn ⟨A2, c2, rfl, R2, hbn⟩; (try replace R1 := (by first | exact R1.next stab_RI hbn | exact (R1.drew stab_RI).next stab_RI hbn)); replace Tk := below_next (by first | exact Tk | exact Below.drew Tk) hbn rfl)
        | (go_at_call 138; refine (l31Compare_any _ _ _ _ _ _ _ _ _ (by first | exact R1 | exact R1.drew stab_RI) (by first | exact R2 | exact R2.drew stab_RI)).mono ?_; rintro e wm ⟨rfl, z, rfl⟩; rw [HT.out]; replace Tk := below_drewN (by first | exact Tk | exact Below.drew Tk) z))
      all_goals
        go_wp2_with fail
        go_meet
        exact ⟨rfl, by first | exact Tk | exact Below.drew Tk⟩
    case rest =>
      obtain ⟨rfl, hbc⟩ := hcut
      obtain ⟨w1, HWC⟩ : ∃ wq : World, wq = wc := ⟨_, rfl⟩
      subst HWC
      have hT := below_next T0 hbc rfl
      clear Tk
      by_cases ht0 : t = 0
      · have hne2 : (t != 0) = false := by simp [ht0]
        have HX1 : Hid ((t == 0) = true) := by show _ = _; simp [ht0]
        have Tk := hbc
        have dP0 := keepc hbc cP0
        have dP1 := keepc hbc cP1
        have dQ0 := keepc hbc cQ0
        have dQ1 := keepc hbc cQ1
        clear ht0
        go_wp2_with fail
        go_cut [4] (fun v4 wx => v4 = (.bool (decide (u < 0))) ∧ Below w0.heap.size w0 wx)
        case first =>
          go_region_held3 (fun w' => w'.cell? ⟨w.heap.size, 0, none⟩ = some (.int .i64 x.1) ∧ w'.cell? ⟨w.heap.size, 1, none⟩ = some (.slice B n c) ∧ w'.cell? ⟨w.heap.size + 1, 0, none⟩ = some (.int .i64 y.1) ∧ w'.cell? ⟨w.heap.size + 1, 1, none⟩ = some (.slice D m d)) (first | go_keep | exact ⟨keepc Tk cP0, keepc Tk cP1, keepc Tk cQ0, keepc Tk cQ1⟩) (first
            | (go_at_call 72; (with_reducible refine (HC3 _ ?_).mono ?_); (first | exact Tk | exact Below.drew Tk); rintro e wn ⟨A1, c1, rfl, R1, hbn⟩; (try replace R2 := (by first | exact R2.next stab_RI hbn | exact (R2.drew stab_RI).next stab_RI hbn)); replace Tk := below_next (by first | exact Tk | exact Below.drew Tk) hbn rfl)
            | (go_at_call 72; (with_reducible refine (HC4 _ ?_).mono ?_); (first | exact Tk | exact Below.drew Tk); rintro e wn ⟨A2, c2, rfl, R2, hbn⟩; (try replace R1 := (by first | exact R1.next stab_RI hbn | exact (R1.drew stab_RI).next stab_RI hbn)); replace Tk := below_next (by first | exact Tk | exact Below.drew Tk) hbn rfl)
            | (go_at_call 138; refine (l31Compare_any _ _ _ _ _ _ _ _ _ (by first | exact R1 | exact R1.drew stab_RI) (by first | exact R2 | exact R2.drew stab_RI)).mono ?_; rintro e wm ⟨rfl, z, rfl⟩; rw [HU.out]; replace Tk := below_drewN (by first | exact Tk | exact Below.drew Tk) z))
          all_goals
            go_wp2_with fail
            go_meet
            exact ⟨rfl, by first | exact Tk | exact Below.drew Tk⟩
        case rest =>
          obtain ⟨rfl, hbd⟩ := hcut
          have hT2 := below_next T0 hbd rfl
          go_wp2_with fail
          go_ret
          exact ⟨by show Ending.returned (.bool (decide (u < 0))) = _; rw [show befB x y = _ from by unfold befB; rw [HX0.out, if_pos rfl, HT.out, HX1.out, if_pos rfl, HU.out]], hT2⟩
      · have hne2 : (t != 0) = true := by simp [ht0]
        have HX1 : Hid ((t == 0) = false) := by show _ = _; simp [ht0]
        clear ht0
        go_wp2_with fail
        go_ret
        exact ⟨by show Ending.returned (.bool (decide (t < 0))) = _; rw [show befB x y = _ from by unfold befB; rw [HX0.out, if_pos rfl, HT.out, HX1.out, if_neg (by decide)]], hT⟩
  · have hne : (x.1 != y.1) = true := by simp [hxy]
    have HX0 : Hid ((x.1 == y.1) = false) := by show _ = _; simp [hxy]
    clear hxy
    go_enter Try.func127, Try.ntmps127
    go_upto_region 1 with fail
    rw [← HW0.out]
    go_wp2_with fail
    go_ret
    exact ⟨by show Ending.returned (.bool (decide (x.1 < y.1))) = _; rw [show befB x y = _ from by unfold befB; rw [HX0.out, if_neg (by decide)]], T0⟩
end Go.Proofs.Ytppnmpeicmlneaa
