
/- Walks: names of a catalogue; the order of its models. -/
import Derived.Test.YtbpdbimdefdefaaSame
import Derived.Test.YtbpdbimdefdefaaGrp
import Derived.Test.YtbpdbimdefdefaaMapS
import Derived.Test.YtbpdbimdefdefaaHEntry
import Derived.Deep.RegionLaw
namespace Go.Proofs.Ytbpdbimdefdefaa
open Go.RowKit

/-! ## Names -/
def lowB (c : UInt8) : Bool := decide (97 ≤ (c.toNat : Int)) && decide ((c.toNat : Int) ≤ 122)
def allLow : List UInt8 → Bool
  | [] => true
  | c :: l => lowB c && allLow l
def nameB (s : ByteArray) : Bool := allLow (bs s) && inB s.size 1 10
def LowAt (s : ByteArray) (k : Nat) : Prop := allLow ((bs s).drop k) = allLow (bs s)
theorem LowAt.step {s : ByteArray} {k : Nat} (h : LowAt s k) (hk : k < s.size) (ho : lowB s[k] = true) : LowAt s (k + 1) := by
  unfold LowAt at *; rw [drop_cons s k hk] at h; rw [← h]; simp [allLow, ho]
theorem LowAt.stop {s : ByteArray} {k : Nat} (h : LowAt s k) (hk : k < s.size) (ho : lowB s[k] = false) : false = nameB s := by
  unfold LowAt at *; rw [drop_cons s k hk] at h; unfold nameB; rw [← h]; simp [allLow, ho]
theorem LowAt.done {s : ByteArray} {k : Nat} (h : LowAt s k) (hk : ¬ k < s.size) : inB s.size 1 10 = nameB s := by
  unfold LowAt at *; rw [drop_end s k hk] at h; unfold nameB; rw [← h]; rfl
theorem name_big {s : ByteArray} (h : 11 ≤ s.size) : inB s.size 1 10 = nameB s := by
  have e : inB s.size 1 10 = false := by unfold inB; simp; omega
  unfold nameB
  rw [e, Bool.and_false]
set_option maxHeartbeats 400000 in
theorem isName_any (s : ByteArray) (w : World) (hs : s.size ≤ maxLen) :
    Calls Try.prog 55 #[.string s] w fun e w' => e = .returned (.bool (nameB s)) ∧ w = w' := by
  unfold maxLen at hs
  go_enter Try.func55, Try.ntmps55
  go_wp2
  go_loop [3] (fun i => ∃ k : Nat, k ≤ s.size ∧ i = .int .i64 k ∧ LowAt s k) (fun i => s.size - (intOf i).toNat)
  case atStart => exact ⟨0, Nat.zero_le _, rfl, rfl⟩
  case round =>
    obtain ⟨k, hk, rfl, H⟩ := hrel
    by_cases hlt : k < s.size
    · by_cases h1 : (s[k].toNat : Int) < 97
      · go_wp2
        go_ret
        exact ⟨ret_bool (H.stop hlt (by unfold lowB; simp; omega)), rfl⟩
      · by_cases h2 : 122 < (s[k].toNat : Int)
        · go_wp2
          go_ret
          exact ⟨ret_bool (H.stop hlt (by unfold lowB; simp; omega)), rfl⟩
        · go_wp2
          go_round
          case rel => exact ⟨k + 1, by omega, by go_num, H.step hlt (by unfold lowB; simp; omega)⟩
          case measure => simp [intOf]; omega
    · obtain rfl : k = s.size := by omega
      by_cases h1 : 1 ≤ (s.size : Int)
      all_goals
        go_wp2
        go_ret
        exact ⟨ret_bool (by rw [← H.done hlt]; unfold inB; simp; omega), rfl⟩
set_option maxHeartbeats 400000 in
theorem l31Name_any (s : ByteArray) (w : World) (hs : s.size ≤ maxLen) :
    Calls Try.prog 41 #[.string s] w fun e w' => e = .returned (.bool (nameB s)) ∧ w = w' := by
  unfold maxLen at hs
  go_enter Try.func41, Try.ntmps41
  go_wp2
  go_loop [3] (fun i => ∃ k : Nat, k ≤ s.size ∧ k ≤ 11 ∧ i = .int .i64 k ∧ LowAt s k) (fun i => s.size - (intOf i).toNat)
  case atStart => exact ⟨0, Nat.zero_le _, by omega, rfl, rfl⟩
  case round =>
    obtain ⟨k, hk, hk2, rfl, H⟩ := hrel
    have hle : (s.size : Int) ≤ 9223372036854775807 := by omega
    by_cases hlt : k < s.size
    · by_cases h11 : k < 11
      · have hb : wrap64 (s[k].toNat : Int) = s[k].toNat := byte64 _
        obtain ⟨r, hr⟩ : ∃ r, lowB s[k] = r := ⟨_, rfl⟩
        have HR : Hid (inB (wrap64 (s[k].toNat : Int)) 97 122 = r) := by show _ = _; rw [hb, ← hr]; rfl
        have HR' := Lib.hid hr
        clear hr hb
        rcases r with _ | _
        · go_wp2_with (go_at_call 95; refine (l1In_any _ _ _ _).mono ?_; rintro e w' ⟨rfl, rfl⟩; rw [HR.out])
          go_ret
          exact ⟨ret_bool (H.stop hlt HR'.out), rfl⟩
        · go_wp2_with (go_at_call 95; refine (l1In_any _ _ _ _).mono ?_; rintro e w' ⟨rfl, rfl⟩; rw [HR.out])
          go_round
          case rel => exact ⟨k + 1, by omega, by omega, by go_num, H.step hlt HR'.out⟩
          case measure => simp [intOf]; omega
      · go_wp2_with (go_at_call 95; refine (l1In_any _ _ _ _).mono ?_; rintro e w' ⟨rfl, rfl⟩)
        go_ret
        exact ⟨ret_bool (name_big (by omega)), rfl⟩
    · obtain rfl : k = s.size := by omega
      go_wp2_with (go_at_call 95; refine (l1In_any _ _ _ _).mono ?_; rintro e w' ⟨rfl, rfl⟩)
      go_ret
      exact ⟨ret_bool (H.done hlt), rfl⟩

/-! ## The order -/
set_option maxHeartbeats 400000 in
theorem l31Compare_any (A B : Option Addr) (n m c d : Nat) (xs ys : List Int) (w : World) (h : RdL RI w A n xs) (h' : RdL RI w B m ys) :
    Calls Try.prog 135 #[.slice A n c, .slice B m d] w (Qt w (.int .i64 (lexL xs ys))) := by
  have hle := h.le
  have hle' := h'.le
  have hx := Lib.hid h.len
  have hy := Lib.hid h'.len
  go_enter Try.func135, Try.ntmps135
  go_wp2
  go_loopw [5] (fun i wr => ∃ k : Nat, k ≤ n ∧ k ≤ m ∧ i = .int .i64 k ∧ At2 lexL xs ys k ∧ Drawn w wr) (fun i _ => n - (intOf i).toNat)
  case atStart => exact ⟨0, Nat.zero_le _, Nat.zero_le _, rfl, rfl, Drawn.zero _⟩
  case round =>
    obtain ⟨k, hk, hk', rfl, H, z, rfl⟩ := hrel
    by_cases hlt : k < n
    · by_cases hlt' : k < m
      · obtain ⟨b, o, v, x, rfl, hc, ⟨rfl, -⟩, hd, -⟩ := h.at hlt
        obtain ⟨b', o', v', y, rfl, hc', ⟨rfl, -⟩, hd', -⟩ := h'.at hlt'
        have H1 := Lib.hid hd
        have H2 := Lib.hid hd'
        clear hd hd'
        by_cases hxy : x < y
        · have HE : Hid ((x == y) = false) := by simp [Hid]; omega
          go_wp2
          go_quiet (fail)
          go_wp2
          go_ret
          exact ⟨ret_int (H.stop H1.out H2.out (by rw [lexL, HE.out, if_neg (by decide), if_pos (by assumption)])), (by first | exact Drawn.zero _ | exact Drawn.at_ _ _ | exact (Drawn.at_ _ _).more _ | exact ((Drawn.at_ _ _).more _).more _)⟩
        · by_cases hyx : y < x
          · have HE : Hid ((x == y) = false) := by simp [Hid]; omega
            go_wp2
            go_quiet (fail)
            go_wp2
            go_quiet (fail)
            go_wp2
            go_ret
            exact ⟨ret_int (H.stop H1.out H2.out (by rw [lexL, HE.out, if_neg (by decide), if_neg (by omega)])), (by first | exact Drawn.zero _ | exact Drawn.at_ _ _ | exact (Drawn.at_ _ _).more _ | exact ((Drawn.at_ _ _).more _).more _)⟩
          · have HE : Hid ((x == y) = true) := by simp [Hid]; omega
            go_wp2
            go_quiet (fail)
            go_wp2
            go_quiet (fail)
            go_wp2
            go_roundw
            case rel => exact ⟨k + 1, by omega, by omega, by go_num, H.step H1.out H2.out (by rw [lexL, HE.out, if_pos rfl]), (by first | exact Drawn.zero _ | exact Drawn.at_ _ _ | exact (Drawn.at_ _ _).more _ | exact ((Drawn.at_ _ _).more _).more _)⟩
            case measure => simp [intOf]; omega
      · go_wp2
        all_goals
          go_ret
          exact ⟨ret_int (H.done rfl rfl (by rw [lexL_ends hx.out hy.out (by omega) hk hk']; first | rw [if_pos (by omega)] | rw [if_neg (by omega), if_pos (by omega)] | rw [if_neg (by omega), if_neg (by omega)])), (by first | exact Drawn.zero _ | exact Drawn.at_ _ _ | exact (Drawn.at_ _ _).more _ | exact ((Drawn.at_ _ _).more _).more _)⟩
    · go_wp2
      all_goals
        go_ret
        exact ⟨ret_int (H.done rfl rfl (by rw [lexL_ends hx.out hy.out (by omega) hk hk']; first | rw [if_pos (by omega)] | rw [if_neg (by omega), if_pos (by omega)] | rw [if_neg (by omega), if_neg (by omega)])), (by first | exact Drawn.zero _ | exact Drawn.at_ _ _ | exact (Drawn.at_ _ _).more _ | exact ((Drawn.at_ _ _).more _).more _)⟩

set_option maxRecDepth 20000 in
set_option maxHeartbeats 4000000 in
theorem typeOf_any (cs : List Value) (x : AlgebraM) (w : World) (h : shAlgebra.rd w cs x) (hn : x.2.length ≤ 1048576) :
    Calls Try.prog 138 #[.agg cs.toArray] w (fun e w' => ∃ A c, e = .returned (.slice A x.2.length c) ∧ RdL RI w' A x.2.length (tyL x.2) ∧ Below w.heap.size w w') := by
  obtain ⟨B, m, d, rfl, qs, qo⟩ := rdAlgebra h
  obtain rfl : x.2.length = m := qo.len
  have HTR := Lib.hid (tyL_R qo)
  have hle := qo.le
  obtain ⟨w0, hw0, T0, hsz0, BP⟩ := boxes1 w #[.int .i64 x.1, .slice B x.2.length d] 38
  have hown0 := lit_below T0
  have T1 := below_next T0 (below_box w0 (.cells #[] 3)) rfl
  obtain ⟨w1, hw1⟩ : ∃ wb, wb = w0.alloc (.cells #[] 3) := ⟨_, rfl⟩
  rw [← hw1] at hown0 T1
  rw [hsz0] at hown0
  have HW : Hid (w1 = (w.alloc (.cells #[.int .i64 x.1, .slice B x.2.length d] 38)).alloc (.cells #[] 3)) := by show _ = _; rw [hw1, hw0]
  clear hw0 hw1 T0 hsz0 BP
  go_enter Try.func138, Try.ntmps138
  go_wp2_with fail
  rw [← HW.out]
  go_loopw [3, 5, 10] (fun v _ i wr => ∃ (k : Nat) (A : Option Addr) (c : Nat), k ≤ x.2.length ∧ i = .int .i64 k ∧ v = .slice A k c ∧ wr.ownsRow w.heap.size 3 1 (.slice A k c) k (ints ((tyL x.2).take k)) ∧ Below w.heap.size w wr) (fun _ _ i _ => x.2.length - (intOf i).toNat)
  case atStart => exact ⟨0, _, _, Nat.zero_le _, rfl, rfl, hown0, T1⟩
  case round =>
    clear hown0 T1
    obtain ⟨k, A, c, hk, rfl, rfl, hown, hTw⟩ := hrel
    have q' := qo.next hTw
    by_cases hlt : k < x.2.length
    · obtain ⟨b, o, vs, u, rfl, -, hc, hr, -, hxu⟩ := q'.at hlt
      obtain ⟨B', m', d', rfl, qa, qt⟩ := rdOp hr
      have cc0 : wr.cell? ⟨b, o + k * 2, none⟩ = some (.int .i64 u.1) := hc 0 _ rfl
      have cc1 : wr.cell? ⟨b, o + k * 2 + 1, none⟩ = some (.slice B' m' d') := hc 1 _ rfl
      obtain ⟨wb, HWB⟩ : ∃ wb, Hid (wb = wr.alloc (.cells #[.int .i64 u.1, .slice B' m' d'] 103)) := ⟨_, rfl⟩
      have hb1 : Below wr.heap.size wr wb := by rw [HWB.out]; exact below_box _ _
      have BN : Blk wb wr.heap.size 103 #[.int .i64 u.1, .slice B' m' d'] := by rw [HWB.out]; exact Blk.new _ _ _
      have cN0 := BN.cell 0
      simp at cN0
      have hown1 := own_next hown hb1
      have hTw1 := below_next hTw hb1 rfl
      have hbase := hTw1.size
      have HS := Lib.hid (tyL_snoc hxu)
      clear hc hxu hb1
      have hk0 : (0 : Int) ≤ (k : Int) := by omega
      have hk1 : (k : Int) < (x.2.length : Int) := by omega
      go_upto_region 5 with fail
      rw [← HWB.out]
      go_wp2_with (at_builtin; refine app1 wb rfl _ _ 75 3 rfl (.int .i64 0) 8 Try.underlying75 info_int rfl (by decide) w.heap.size k c A (ints ((tyL x.2).take k)) rfl hown1 (.int .i64 u.1) rfl rfl (by omega) hbase ?_; intro A2 c2 w2 hown2 hg2 hb2)
      go_roundw
      case rel => exact ⟨k + 1, A2, c2, by omega, by go_num, rfl, by rw [HS.out, ints_snoc]; exact hown2, hTw1.trans hb2⟩
      case measure => simp [intOf]; omega
    · have hke : k = x.2.length := by omega
      have hlt' : ¬ (k : Int) < (x.2.length : Int) := by omega
      have HRR : Hid (RdL RI wr A x.2.length (tyL x.2)) := by
        show RdL _ _ _ _ _
        rw [hke, List.take_of_length_le (by rw [tyL_len]; exact Nat.le_refl _)] at hown
        exact rd_of_own (R := RI) hown (RI_ints HTR.out)
      have HK := Lib.hid hke
      clear hke
      go_wp2_with fail
      go_ret
      exact ⟨A, ⟨c, by rw [← HK.out]; rfl⟩, HRR.out, hTw⟩

/-- A model before another one: by the size, the type, the code. -/
def cmpI (x y : AlgebraM) : Int := if x.1 == y.1 then (if lexL (tyL x.2) (tyL y.2) == 0 then lexL (codeL x.2) (codeL y.2) else lexL (tyL x.2) (tyL y.2)) else x.1 - y.1
theorem lexL_bd : ∀ xs ys : List Int, -1 ≤ lexL xs ys ∧ lexL xs ys ≤ 1
  | [], [] => by simp [lexL]
  | [], _ :: _ => by simp [lexL]
  | _ :: _, [] => by simp [lexL]
  | x :: l, y :: m => by
    rw [lexL]
    split
    · exact lexL_bd l m
    · split <;> omega
theorem lexL_zero : ∀ {xs ys : List Int}, lexL xs ys = 0 ↔ xs = ys
  | [], [] => by simp [lexL]
  | [], _ :: _ => by simp [lexL]
  | _ :: _, [] => by simp [lexL]
  | x :: l, y :: m => by
    rw [lexL]
    split
    · rename_i h
      have h := eq_of_beq h
      rw [lexL_zero, h]
      simp
    · rename_i h
      have h' : ¬ x = y := fun e => h (by simp [e])
      split
      · simp [h']
      · simp [h']
theorem cmpI_zero {x y : AlgebraM} (hx : SmallP x) (hy : SmallP y) : cmpI x y = 0 ↔ x = y := by
  unfold cmpI
  constructor
  · intro h
    split at h
    · rename_i h1
      have h1 := eq_of_beq h1
      split at h
      · rename_i h2
        have h2 := lexL_zero.1 (eq_of_beq h2)
        exact Prod.ext h1 (code_eq (n := x.1.toNat) hx.2.2.2 (by rw [h1]; exact hy.2.2.2) h2 (lexL_zero.1 h))
      · rename_i h2
        exact absurd (by simp [h]) h2
    · rename_i h1
      exact absurd (by simp; omega) h1
  · rintro rfl
    have e1 : lexL (tyL x.2) (tyL x.2) = 0 := lexL_zero.2 rfl
    have e2 : lexL (codeL x.2) (codeL x.2) = 0 := lexL_zero.2 rfl
    simp [e1, e2]

set_option maxRecDepth 20000 in
set_option maxHeartbeats 8000000 in
theorem compareModels_any (cs ds : List Value) (x y : AlgebraM) (w : World) (h : shAlgebra.rd w cs x) (h' : shAlgebra.rd w ds y) (hx : SmallP x) (hy : SmallP y) :
    Calls Try.prog 97 #[.agg cs.toArray, .agg ds.toArray] w (Bl w (.int .i64 (cmpI x y))) := by
  have hrd := h
  have hrd' := h'
  obtain ⟨B, n, c, rfl, qs, qo⟩ := rdAlgebra h
  obtain ⟨D, m, d, rfl, qs', qo'⟩ := rdAlgebra h'
  obtain ⟨w0, hw0, T0, hsz0, BP, BQ⟩ := boxes2 w #[.int .i64 x.1, .slice B n c] #[.int .i64 y.1, .slice D m d] 38 38
  have HW0 := Lib.hid hw0
  have hx4 : x.2.length ≤ 1048576 := by have := hx.2.2.1; omega
  have hy4 : y.2.length ≤ 1048576 := by have := hy.2.2.1; omega
  have hcx := code_small hx
  have hcy := code_small hy
  have hx1 : 1 ≤ x.1 ∧ x.1 ≤ 5 := ⟨hx.1, hx.2.1⟩
  have hy1 : 1 ≤ y.1 ∧ y.1 ≤ 5 := ⟨hy.1, hy.2.1⟩
  have hxc : shAlgebra.cnt x ≤ 1048576 := by have := small_ops hx; show 0 + (x.2.length + cntS shOp.cnt x.2) ≤ _; omega
  have hyc : shAlgebra.cnt y ≤ 1048576 := by have := small_ops hy; show 0 + (y.2.length + cntS shOp.cnt y.2) ≤ _; omega
  have HRX := Lib.hid (code_R hx)
  have HRY := Lib.hid (code_R hy)
  have HC1 : ∀ wz, Below w0.heap.size w0 wz → Calls Try.prog 138 #[.agg #[.int .i64 x.1, .slice B n c]] wz (fun e w' => ∃ A c, e = .returned (.slice A x.2.length c) ∧ RdL RI w' A x.2.length (tyL x.2) ∧ Below wz.heap.size wz w') := fun wz hz =>
    typeOf_any [.int .i64 x.1, .slice B n c] x wz (shAlgebra.stab (shAlgebra.stab hrd T0.block) hz.block) hx4
  have HC2 : ∀ wz, Below w0.heap.size w0 wz → Calls Try.prog 138 #[.agg #[.int .i64 y.1, .slice D m d]] wz (fun e w' => ∃ A c, e = .returned (.slice A y.2.length c) ∧ RdL RI w' A y.2.length (tyL y.2) ∧ Below wz.heap.size wz w') := fun wz hz =>
    typeOf_any [.int .i64 y.1, .slice D m d] y wz (shAlgebra.stab (shAlgebra.stab hrd' T0.block) hz.block) hy4
  have HC3 : ∀ wz, Below w0.heap.size w0 wz → Calls Try.prog 108 #[.agg #[.int .i64 x.1, .slice B n c]] wz (fun e w' => ∃ A c, e = .returned (.slice A (codeL x.2).length c) ∧ RdL RI w' A (codeL x.2).length (codeL x.2) ∧ Below wz.heap.size wz w') := fun wz hz =>
    (codeOf_any [.int .i64 x.1, .slice B n c] x wz (shAlgebra.stab (shAlgebra.stab hrd T0.block) hz.block) hxc).mono fun e w' ⟨A, c, h1, h2, h3⟩ => ⟨A, c, h1, rd_of_own (R := RI) h2 (RI_ints HRX.out), h3⟩
  have HC4 : ∀ wz, Below w0.heap.size w0 wz → Calls Try.prog 108 #[.agg #[.int .i64 y.1, .slice D m d]] wz (fun e w' => ∃ A c, e = .returned (.slice A (codeL y.2).length c) ∧ RdL RI w' A (codeL y.2).length (codeL y.2) ∧ Below wz.heap.size wz w') := fun wz hz =>
    (codeOf_any [.int .i64 y.1, .slice D m d] y wz (shAlgebra.stab (shAlgebra.stab hrd' T0.block) hz.block) hyc).mono fun e w' ⟨A, c, h1, h2, h3⟩ => ⟨A, c, h1, rd_of_own (R := RI) h2 (RI_ints HRY.out), h3⟩
  have cP0 := BP.cell 0
  have cP1 := BP.cell 1
  have cQ0 := BQ.cell 0
  have cQ1 := BQ.cell 1
  simp at cP0 cP1 cQ0 cQ1
  clear hw0 hsz0 h h' qo qo'
  by_cases hxy : x.1 = y.1
  · have hne : (x.1 != y.1) = false := by simp [hxy]
    have HX0 : Hid ((x.1 == y.1) = true) := by show _ = _; simp [hxy]
    have hT0 := lexL_bd (tyL x.2) (tyL y.2)
    have hT1 := lexL_bd (codeL x.2) (codeL y.2)
    obtain ⟨t, HT⟩ : ∃ t, Hid (lexL (tyL x.2) (tyL y.2) = t) := ⟨_, rfl⟩
    obtain ⟨u, HU⟩ : ∃ u, Hid (lexL (codeL x.2) (codeL y.2) = u) := ⟨_, rfl⟩
    rw [HT.out] at hT0
    rw [HU.out] at hT1
    clear hxy
    go_enter Try.func97, Try.ntmps97
    go_upto_region 1 with fail
    rw [← HW0.out]
    have Tk : Below w0.heap.size w0 w0 := Below.refl _ _
    go_wp2_with fail
    go_cut [5] (fun v5 wx => v5 = .int .i64 t ∧ Below w0.heap.size w0 wx)
    case first =>
      go_region_held3 (fun w' => w'.cell? ⟨w.heap.size, 0, none⟩ = some (.int .i64 x.1) ∧ w'.cell? ⟨w.heap.size, 1, none⟩ = some (.slice B n c) ∧ w'.cell? ⟨w.heap.size + 1, 0, none⟩ = some (.int .i64 y.1) ∧ w'.cell? ⟨w.heap.size + 1, 1, none⟩ = some (.slice D m d)) (first | go_keep | exact ⟨keepc Tk cP0, keepc Tk cP1, keepc Tk cQ0, keepc Tk cQ1⟩) (first
        | (go_at_call 138; (with_reducible refine (HC1 _ ?_).mono ?_); (first | exact Tk | exact Below.drew Tk); rintro e wn ⟨A1, c1, rfl, R1, hbn⟩; (try replace R2 := (by first | exact R2.next stab_RI hbn | exact (R2.drew stab_RI).next stab_RI hbn)); replace Tk := below_next (by first | exact Tk | exact Below.drew Tk) hbn rfl)
        | (go_at_call 138; (with_reducible refine (HC2 _ ?_).mono ?_); (first | exact Tk | exact Below.drew Tk); rintro e wn ⟨A2, c2, rfl, R2, hbn⟩; (try replace R1 := (by first | exact R1.next stab_RI hbn | exact (R1.drew stab_RI).next stab_RI hbn)); replace Tk := below_next (by first | exact Tk | exact Below.drew Tk) hbn rfl)
        | (go_at_call 109; refine (compareLists_any _ _ _ _ _ _ _ _ _ (by first | exact R1 | exact R1.drew stab_RI) (by first | exact R2 | exact R2.drew stab_RI)).mono ?_; rintro e wm ⟨rfl, z, rfl⟩; rw [HT.out]; replace Tk := below_drewN (by first | exact Tk | exact Below.drew Tk) z))
      all_goals
        go_wp2_with fail
        go_meet
        exact ⟨rfl, by first | exact Tk | exact Below.drew Tk⟩
    case rest =>
      obtain ⟨rfl, hbc⟩ := hcut
      obtain ⟨w1, HWC⟩ : ∃ wq : World, wq = wc := ⟨_, rfl⟩
      subst HWC
      have hT := below_next T0 hbc rfl
      clear Tk
      by_cases ht0 : t = 0
      · have hne2 : (t != 0) = false := by simp [ht0]
        have HX1 : Hid ((t == 0) = true) := by show _ = _; simp [ht0]
        have Tk := hbc
        have dP0 := keepc hbc cP0
        have dP1 := keepc hbc cP1
        have dQ0 := keepc hbc cQ0
        have dQ1 := keepc hbc cQ1
        clear ht0
        go_wp2_with fail
        go_cut [4] (fun v4 wx => v4 = (.int .i64 u) ∧ Below w0.heap.size w0 wx)
        case first =>
          go_region_held3 (fun w' => w'.cell? ⟨w.heap.size, 0, none⟩ = some (.int .i64 x.1) ∧ w'.cell? ⟨w.heap.size, 1, none⟩ = some (.slice B n c) ∧ w'.cell? ⟨w.heap.size + 1, 0, none⟩ = some (.int .i64 y.1) ∧ w'.cell? ⟨w.heap.size + 1, 1, none⟩ = some (.slice D m d)) (first | go_keep | exact ⟨keepc Tk cP0, keepc Tk cP1, keepc Tk cQ0, keepc Tk cQ1⟩) (first
            | (go_at_call 108; (with_reducible refine (HC3 _ ?_).mono ?_); (first | exact Tk | exact Below.drew Tk); rintro e wn ⟨A1, c1, rfl, R1, hbn⟩; (try replace R2 := (by first | exact R2.next stab_RI hbn | exact (R2.drew stab_RI).next stab_RI hbn)); replace Tk := below_next (by first | exact Tk | exact Below.drew Tk) hbn rfl)
            | (go_at_call 108; (with_reducible refine (HC4 _ ?_).mono ?_); (first | exact Tk | exact Below.drew Tk); rintro e wn ⟨A2, c2, rfl, R2, hbn⟩; (try replace R1 := (by first | exact R1.next stab_RI hbn | exact (R1.drew stab_RI).next stab_RI hbn)); replace Tk := below_next (by first | exact Tk | exact Below.drew Tk) hbn rfl)
            | (go_at_call 109; refine (compareLists_any _ _ _ _ _ _ _ _ _ (by first | exact R1 | exact R1.drew stab_RI) (by first | exact R2 | exact R2.drew stab_RI)).mono ?_; rintro e wm ⟨rfl, z, rfl⟩; rw [HU.out]; replace Tk := below_drewN (by first | exact Tk | exact Below.drew Tk) z))
          all_goals
            go_wp2_with fail
            go_meet
            exact ⟨rfl, by first | exact Tk | exact Below.drew Tk⟩
        case rest =>
          obtain ⟨rfl, hbd⟩ := hcut
          have hT2 := below_next T0 hbd rfl
          go_wp2_with fail
          go_ret
          exact ⟨by show Ending.returned (.int .i64 u) = _; rw [show cmpI x y = _ from by unfold cmpI; rw [HX0.out, if_pos rfl, HT.out, HX1.out, if_pos rfl, HU.out]], hT2⟩
      · have hne2 : (t != 0) = true := by simp [ht0]
        have HX1 : Hid ((t == 0) = false) := by show _ = _; simp [ht0]
        clear ht0
        go_wp2_with fail
        go_ret
        exact ⟨by show Ending.returned (.int .i64 t) = _; rw [show cmpI x y = _ from by unfold cmpI; rw [HX0.out, if_pos rfl, HT.out, HX1.out, if_neg (by decide)]], hT⟩
  · have hne : (x.1 != y.1) = true := by simp [hxy]
    have HX0 : Hid ((x.1 == y.1) = false) := by show _ = _; simp [hxy]
    clear hxy
    go_enter Try.func97, Try.ntmps97
    go_upto_region 1 with fail
    rw [← HW0.out]
    go_wp2_with fail
    go_ret
    exact ⟨by show Ending.returned (.int .i64 (x.1 - y.1)) = _; rw [show cmpI x y = _ from by unfold cmpI; rw [HX0.out, if_neg (by decide)]], T0⟩
def befB (x y : AlgebraM) : Bool := if x.1 == y.1 then (if lexL (tyL x.2) (tyL y.2) == 0 then decide (lexL (codeL x.2) (codeL y.2) < 0) else decide (lexL (tyL x.2) (tyL y.2) < 0)) else decide (x.1 < y.1)
theorem befB_cmp (x y : AlgebraM) : befB x y = decide (cmpI x y < 0) := by
  unfold befB cmpI
  split
  · split <;> rfl
  · exact decide_eq_decide.2 (by omega)
set_option maxRecDepth 20000 in
set_option maxHeartbeats 8000000 in
theorem l31Before_any (cs ds : List Value) (x y : AlgebraM) (w : World) (h : shAlgebra.rd w cs x) (h' : shAlgebra.rd w ds y) (hx : SmallP x) (hy : SmallP y) :
    Calls Try.prog 94 #[.agg cs.toArray, .agg ds.toArray] w (Bl w (.bool (befB x y))) := by
  have hrd := h
  have hrd' := h'
  obtain ⟨B, n, c, rfl, qs, qo⟩ := rdAlgebra h
  obtain ⟨D, m, d, rfl, qs', qo'⟩ := rdAlgebra h'
  obtain ⟨w0, hw0, T0, hsz0, BP, BQ⟩ := boxes2 w #[.int .i64 x.1, .slice B n c] #[.int .i64 y.1, .slice D m d] 38 38
  have HW0 := Lib.hid hw0
  have hx4 : x.2.length ≤ 1048576 := by have := hx.2.2.1; omega
  have hy4 : y.2.length ≤ 1048576 := by have := hy.2.2.1; omega
  have hcx := code_small hx
  have hcy := code_small hy
  have hx1 : 1 ≤ x.1 ∧ x.1 ≤ 5 := ⟨hx.1, hx.2.1⟩
  have hy1 : 1 ≤ y.1 ∧ y.1 ≤ 5 := ⟨hy.1, hy.2.1⟩
  have hxc : shAlgebra.cnt x ≤ 1048576 := by have := small_ops hx; show 0 + (x.2.length + cntS shOp.cnt x.2) ≤ _; omega
  have hyc : shAlgebra.cnt y ≤ 1048576 := by have := small_ops hy; show 0 + (y.2.length + cntS shOp.cnt y.2) ≤ _; omega
  have HRX := Lib.hid (code_R hx)
  have HRY := Lib.hid (code_R hy)
  have HC1 : ∀ wz, Below w0.heap.size w0 wz → Calls Try.prog 136 #[.agg #[.int .i64 x.1, .slice B n c]] wz (fun e w' => ∃ A c, e = .returned (.slice A x.2.length c) ∧ RdL RI w' A x.2.length (tyL x.2) ∧ Below wz.heap.size wz w') := fun wz hz =>
    l2Type_any [.int .i64 x.1, .slice B n c] x wz (shAlgebra.stab (shAlgebra.stab hrd T0.block) hz.block) hx4
  have HC2 : ∀ wz, Below w0.heap.size w0 wz → Calls Try.prog 136 #[.agg #[.int .i64 y.1, .slice D m d]] wz (fun e w' => ∃ A c, e = .returned (.slice A y.2.length c) ∧ RdL RI w' A y.2.length (tyL y.2) ∧ Below wz.heap.size wz w') := fun wz hz =>
    l2Type_any [.int .i64 y.1, .slice D m d] y wz (shAlgebra.stab (shAlgebra.stab hrd' T0.block) hz.block) hy4
  have HC3 : ∀ wz, Below w0.heap.size w0 wz → Calls Try.prog 114 #[.agg #[.int .i64 x.1, .slice B n c]] wz (fun e w' => ∃ A c, e = .returned (.slice A (codeL x.2).length c) ∧ RdL RI w' A (codeL x.2).length (codeL x.2) ∧ Below wz.heap.size wz w') := fun wz hz =>
    (l31Code_any [.int .i64 x.1, .slice B n c] x wz (shAlgebra.stab (shAlgebra.stab hrd T0.block) hz.block) hxc).mono fun e w' ⟨A, c, h1, h2, h3⟩ => ⟨A, c, h1, rd_of_own (R := RI) h2 (RI_ints HRX.out), h3⟩
  have HC4 : ∀ wz, Below w0.heap.size w0 wz → Calls Try.prog 114 #[.agg #[.int .i64 y.1, .slice D m d]] wz (fun e w' => ∃ A c, e = .returned (.slice A (codeL y.2).length c) ∧ RdL RI w' A (codeL y.2).length (codeL y.2) ∧ Below wz.heap.size wz w') := fun wz hz =>
    (l31Code_any [.int .i64 y.1, .slice D m d] y wz (shAlgebra.stab (shAlgebra.stab hrd' T0.block) hz.block) hyc).mono fun e w' ⟨A, c, h1, h2, h3⟩ => ⟨A, c, h1, rd_of_own (R := RI) h2 (RI_ints HRY.out), h3⟩
  have cP0 := BP.cell 0
  have cP1 := BP.cell 1
  have cQ0 := BQ.cell 0
  have cQ1 := BQ.cell 1
  simp at cP0 cP1 cQ0 cQ1
  clear hw0 hsz0 h h' qo qo'
  by_cases hxy : x.1 = y.1
  · have hne : (x.1 != y.1) = false := by simp [hxy]
    have HX0 : Hid ((x.1 == y.1) = true) := by show _ = _; simp [hxy]
    have hT0 := lexL_bd (tyL x.2) (tyL y.2)
    have hT1 := lexL_bd (codeL x.2) (codeL y.2)
    obtain ⟨t, HT⟩ : ∃ t, Hid (lexL (tyL x.2) (tyL y.2) = t) := ⟨_, rfl⟩
    obtain ⟨u, HU⟩ : ∃ u, Hid (lexL (codeL x.2) (codeL y.2) = u) := ⟨_, rfl⟩
    rw [HT.out] at hT0
    rw [HU.out] at hT1
    clear hxy
    go_enter Try.func94, Try.ntmps94
    go_upto_region 1 with fail
    rw [← HW0.out]
    have Tk : Below w0.heap.size w0 w0 := Below.refl _ _
    go_wp2_with fail
    go_cut [5] (fun v5 wx => v5 = .int .i64 t ∧ Below w0.heap.size w0 wx)
    case first =>
      go_region_held3 (fun w' => w'.cell? ⟨w.heap.size, 0, none⟩ = some (.int .i64 x.1) ∧ w'.cell? ⟨w.heap.size, 1, none⟩ = some (.slice B n c) ∧ w'.cell? ⟨w.heap.size + 1, 0, none⟩ = some (.int .i64 y.1) ∧ w'.cell? ⟨w.heap.size + 1, 1, none⟩ = some (.slice D m d)) (first | go_keep | exact ⟨keepc Tk cP0, keepc Tk cP1, keepc Tk cQ0, keepc Tk cQ1⟩) (first
        | (go_at_call 136; (with_reducible refine (HC1 _ ?_).mono ?_); (first | exact Tk | exact Below.drew Tk); rintro e wn ⟨A1, c1, rfl, R1, hbn⟩; (try replace R2 := (by first | exact R2.next stab_RI hbn | exact (R2.drew stab_RI).next stab_RI hbn)); replace Tk := below_next (by first | exact Tk | exact Below.drew Tk) hbn rfl)
        | (go_at_call 136; (with_reducible refine (HC2 _ ?_).mono ?_); (first | exact Tk | exact Below.drew Tk); rintro e wn ⟨A2, c2, rfl, R2, hbn⟩; (try replace R1 := (by first | exact R1.next stab_RI hbn | exact (R1.drew stab_RI).next stab_RI hbn)); replace Tk := below_next (by first | exact Tk | exact Below.drew Tk) hbn rfl)
        | (go_at_call 135; refine (l31Compare_any _ _ _ _ _ _ _ _ _ (by first | exact R1 | exact R1.drew stab_RI) (by first | exact R2 | exact R2.drew stab_RI)).mono ?_; rintro e wm ⟨rfl, z, rfl⟩; rw [HT.out]; replace Tk := below_drewN (by first | exact Tk | exact Below.drew Tk) z))
      all_goals
        go_wp2_with fail
        go_meet
        exact ⟨rfl, by first | exact Tk | exact Below.drew Tk⟩
    case rest =>
      obtain ⟨rfl, hbc⟩ := hcut
      obtain ⟨w1, HWC⟩ : ∃ wq : World, wq = wc := ⟨_, rfl⟩
      subst HWC
      have hT := below_next T0 hbc rfl
      clear Tk
      by_cases ht0 : t = 0
      · have hne2 : (t != 0) = false := by simp [ht0]
        have HX1 : Hid ((t == 0) = true) := by show _ = _; simp [ht0]
        have Tk := hbc
        have dP0 := keepc hbc cP0
        have dP1 := keepc hbc cP1
        have dQ0 := keepc hbc cQ0
        have dQ1 := keepc hbc cQ1
        clear ht0
        go_wp2_with fail
        go_cut [4] (fun v4 wx => v4 = (.bool (decide (u < 0))) ∧ Below w0.heap.size w0 wx)
        case first =>
          go_region_held3 (fun w' => w'.cell? ⟨w.heap.size, 0, none⟩ = some (.int .i64 x.1) ∧ w'.cell? ⟨w.heap.size, 1, none⟩ = some (.slice B n c) ∧ w'.cell? ⟨w.heap.size + 1, 0, none⟩ = some (.int .i64 y.1) ∧ w'.cell? ⟨w.heap.size + 1, 1, none⟩ = some (.slice D m d)) (first | go_keep | exact ⟨keepc Tk cP0, keepc Tk cP1, keepc Tk cQ0, keepc Tk cQ1⟩) (first
            | (go_at_call 114; (with_reducible refine (HC3 _ ?_).mono ?_); (first | exact Tk | exact Below.drew Tk); rintro e wn ⟨A1, c1, rfl, R1, hbn⟩; (try replace R2 := (by first | exact R2.next stab_RI hbn | exact (R2.drew stab_RI).next stab_RI hbn)); replace Tk := below_next (by first | exact Tk | exact Below.drew Tk) hbn rfl)
            | (go_at_call 114; (with_reducible refine (HC4 _ ?_).mono ?_); (first | exact Tk | exact Below.drew Tk); rintro e wn ⟨A2, c2, rfl, R2, hbn⟩; (try replace R1 := (by first | exact R1.next stab_RI hbn | exact (R1.drew stab_RI).next stab_RI hbn)); replace Tk := below_next (by first | exact Tk | exact Below.drew Tk) hbn rfl)
            | (go_at_call 135; refine (l31Compare_any _ _ _ _ _ _ _ _ _ (by first | exact R1 | exact R1.drew stab_RI) (by first | exact R2 | exact R2.drew stab_RI)).mono ?_; rintro e wm ⟨rfl, z, rfl⟩; rw [HU.out]; replace Tk := below_drewN (by first | exact Tk | exact Below.drew Tk) z))
          all_goals
            go_wp2_with fail
            go_meet
            exact ⟨rfl, by first | exact Tk | exact Below.drew Tk⟩
        case rest =>
          obtain ⟨rfl, hbd⟩ := hcut
          have hT2 := below_next T0 hbd rfl
          go_wp2_with fail
          go_ret
          exact ⟨by show Ending.returned (.bool (decide (u < 0))) = _; rw [show befB x y = _ from by unfold befB; rw [HX0.out, if_pos rfl, HT.out, HX1.out, if_pos rfl, HU.out]], hT2⟩
      · have hne2 : (t != 0) = true := by simp [ht0]
        have HX1 : Hid ((t == 0) = false) := by show _ = _; simp [ht0]
        clear ht0
        go_wp2_with fail
        go_ret
        exact ⟨by show Ending.returned (.bool (decide (t < 0))) = _; rw [show befB x y = _ from by unfold befB; rw [HX0.out, if_pos rfl, HT.out, HX1.out, if_neg (by decide)]], hT⟩
  · have hne : (x.1 != y.1) = true := by simp [hxy]
    have HX0 : Hid ((x.1 == y.1) = false) := by show _ = _; simp [hxy]
    clear hxy
    go_enter Try.func94, Try.ntmps94
    go_upto_region 1 with fail
    rw [← HW0.out]
    go_wp2_with fail
    go_ret
    exact ⟨by show Ending.returned (.bool (decide (x.1 < y.1))) = _; rw [show befB x y = _ from by unfold befB; rw [HX0.out, if_neg (by decide)]], T0⟩
end Go.Proofs.Ytbpdbimdefdefaa
namespace Go.Proofs.Ytbpdbimdefdefaa
open Go.RowKit

def lastB (pre : List EntryM) (e : EntryM) : Bool := match pre.getLast? with | none => true | some p => befB p.2 e.2
noncomputable def okE (pre : List EntryM) (e : EntryM) : Bool := nameB e.1 && (!(hasS e.1 (pre.map (·.1))) && (smallB e.2 && (eqC (canA e.2) e.2 && lastB pre e)))
noncomputable def catF : List EntryM → List EntryM → Bool
  | _, [] => true
  | pre, e :: l => okE pre e && catF (pre ++ [e]) l
noncomputable def catB (xs : List EntryM) : Bool := decide (xs.length ≤ 12) && catF [] xs
def CatAt (xs : List EntryM) (k : Nat) : Prop := catF (xs.take k) (xs.drop k) = catF [] xs
theorem CatAt.step {xs : List EntryM} {k : Nat} {e : EntryM} (h : CatAt xs k) (hd : xs.drop k = e :: xs.drop (k + 1)) (hx : xs[k]? = some e) (ho : okE (xs.take k) e = true) : CatAt xs (k + 1) := by
  unfold CatAt at *
  rw [hd, catF, ho, Bool.true_and] at h
  rw [take_snoc hx]
  exact h
theorem CatAt.stop {xs : List EntryM} {k : Nat} {e : EntryM} (h : CatAt xs k) (hd : xs.drop k = e :: xs.drop (k + 1)) (ho : okE (xs.take k) e = false) : false = catB xs := by
  unfold CatAt at *
  rw [hd, catF, ho, Bool.false_and] at h
  unfold catB
  rw [← h, Bool.and_false]
theorem CatAt.done {xs : List EntryM} {k : Nat} (h : CatAt xs k) (hl : xs.length ≤ 12) (hk : ¬ k < xs.length) : true = catB xs := by
  unfold CatAt at *
  rw [List.drop_eq_nil_of_le (by omega), catF] at h
  unfold catB
  rw [← h, Bool.and_true]
  exact (decide_eq_true hl).symm
theorem catB_big {xs : List EntryM} (h : ¬ xs.length ≤ 12) : false = catB xs := by unfold catB; rw [decide_eq_false h, Bool.false_and]
theorem Below.keptMap {B : Nat} {w w1 w2 : World} (h : Below B w w1) {b : Nat} (hg : w1.grownBy w2 (some b)) (hB : B ≤ b) (hz : B ≤ w1.heap.size) : Below B w w2 := h.grown hg hz fun j hj => by cases hj; exact hB

set_option maxRecDepth 100000 in
set_option maxHeartbeats 16000000 in
theorem isCat_any (A : Option Addr) (n c : Nat) (xs : List EntryM) (w : World) (h : RdN shEntry.m shEntry.rd w A n xs) :
    Calls Try.prog 44 #[.slice A n c] w (Bl w (.bool (catB xs))) := by
  obtain rfl : xs.length = n := h.len
  have hle := h.le
  have hmm := @run_makeMap Try.prog
  by_cases hn : xs.length ≤ 12
  · have hn' : ¬ (12 : Int) < (xs.length : Int) := by omega
    obtain ⟨w0, hw0⟩ : ∃ w0, w0 = w.alloc (.map #[] 0) := ⟨_, rfl⟩
    have M0 : MapS w0 w.heap.size [] := by rw [hw0]; exact MapS.made _
    have T0 : Below w.heap.size w w0 := by rw [hw0]; exact below_box _ _
    have HW0 := Lib.hid hw0
    clear hw0
    go_enter Try.func44, Try.ntmps44
    go_wp2_with fail
    rw [← HW0.out]
    go_loopw [14] (fun i wr => ∃ k : Nat, k ≤ xs.length ∧ i = .int .i64 k ∧ CatAt xs k ∧ (∀ e ∈ xs.take k, SmallP e.2) ∧ MapS wr w.heap.size ((xs.take k).map (·.1)) ∧ Below w.heap.size w wr) (fun i _ => xs.length - (intOf i).toNat)
    case atStart => exact ⟨0, Nat.zero_le _, rfl, rfl, (fun e he => by simp at he), M0, T0⟩
    case round =>
      clear M0 T0
      obtain ⟨k, hk, rfl, H, hS, hM, hTw⟩ := hrel
      have hmb := hM.lt
      by_cases hlt : k < xs.length
      · obtain ⟨b, o, vs, e, hA, -, hc, hr, hd, hxe⟩ := h.at hlt
        obtain ⟨Bm, m, d, rfl, hsz, hIn, hops⟩ := rdEntry hr
        have cc0 : wr.cell? ⟨b, o + k * 3, none⟩ = some (.string e.1) := keepc hTw (hc 0 _ rfl)
        have cc1 : wr.cell? ⟨b, o + k * 3 + 1, none⟩ = some (.int .i64 e.2.1) := keepc hTw (hc 1 _ rfl)
        have cc2 : wr.cell? ⟨b, o + k * 3 + 2, none⟩ = some (.slice Bm m d) := keepc hTw (hc 2 _ rfl)
        have hral := mkAlgebra (cOps := d) hIn hops
        obtain ⟨wb, HWB⟩ : ∃ wb, Hid (wb = wr.alloc (.cells #[.string e.1, .int .i64 e.2.1, .slice Bm m d] 64)) := ⟨_, rfl⟩
        have hb1 : Below wr.heap.size wr wb := by rw [HWB.out]; exact below_box _ _
        have BN : Blk wb wr.heap.size 64 #[.string e.1, .int .i64 e.2.1, .slice Bm m d] := by rw [HWB.out]; exact Blk.new _ _ _
        have Tb := below_next hTw hb1 rfl
        have Mb := hM.next hb1
        have hra := shAlgebra.stab hral Tb.block
        have cN0 := BN.cell 0
        have cN1 := BN.cell 1
        have cN2 := BN.cell 2
        simp at cN0 cN1 cN2
        have HL := Lib.hid Mb
        have HST := Lib.hid hS
        have HH := Lib.hid H
        have HD := Lib.hid hd
        have HX := Lib.hid hxe
        have hk0 : (0 : Int) ≤ (k : Int) := by omega
        have hk1 : (k : Int) < (xs.length : Int) := by omega
        subst hA
        obtain ⟨pre, HP⟩ : ∃ pre, Hid (xs.take k = pre) := ⟨_, rfl⟩
        have hpl : pre.length = k := by rw [← HP.out, List.length_take]; omega
        have HPL := Lib.hid hpl
        rw [HP.out] at Mb
        obtain ⟨r1, HR1⟩ : ∃ r, Hid (nameB e.1 = r) := ⟨_, rfl⟩
        obtain ⟨r2, HR2⟩ : ∃ r, Hid (hasS e.1 (pre.map (·.1)) = r) := ⟨_, rfl⟩
        obtain ⟨r3, HR3⟩ : ∃ r, Hid (smallB e.2 = r) := ⟨_, rfl⟩
        have HOK : Hid (okE (xs.take k) e = (r1 && (!r2 && (r3 && (eqC (canA e.2) e.2 && lastB pre e))))) := by show _ = _; rw [HP.out]; unfold okE; rw [HR1.out, HR2.out, HR3.out]
        have hlook := Mb.look hsz
        rw [HR2.out] at hlook
        clear hS H hd hxe hc hr hpl
        rcases r1 with _ | _
        · go_wp2_with fail
          rw [← HWB.out]
          go_wp2_with (go_at_call 55; refine (isName_any _ _ hsz).mono ?_; rintro e' w' ⟨rfl, rfl⟩; rw [HR1.out])
          go_ret
          exact ⟨ret_bool (HH.out.stop HD.out (by rw [HOK.out]; rfl)), Tb⟩
        · rcases r2 with _ | _
          · rcases r3 with _ | _
            · go_wp2_with fail
              rw [← HWB.out]
              go_wp2_with (go_at_call 55; refine (isName_any _ _ hsz).mono ?_; rintro e' w' ⟨rfl, rfl⟩; rw [HR1.out])
              refine (isNamed_any _ e.2 _ hra).mono ?_
              rintro e' w1 ⟨rfl, hb2⟩
              rw [HR3.out]
              have T1 := below_next Tb hb2 rfl
              go_wp2_with fail
              go_ret
              exact ⟨ret_bool (HH.out.stop HD.out (by rw [HOK.out]; rfl)), T1⟩
            · have hsm := small_iff.1 HR3.out
              go_wp2_with fail
              rw [← HWB.out]
              go_wp2_with (go_at_call 55; refine (isName_any _ _ hsz).mono ?_; rintro e' w' ⟨rfl, rfl⟩; rw [HR1.out])
              refine (isNamed_any _ e.2 _ hra).mono ?_
              rintro e' w1 ⟨rfl, hb2⟩
              rw [HR3.out]
              have T1 := below_next Tb hb2 rfl
              have M1 := Mb.next hb2
              have BN1 := BN.next hb2
              obtain ⟨w2, hput, M2, g2⟩ := M1.put hsz (by rw [List.length_map, HPL.out]; unfold maxLen; omega)
              have T2 : Below w.heap.size w w2 := Below.keptMap T1 g2 (Nat.le_refl _) T1.size
              have BN2 : Blk w2 wr.heap.size 64 #[.string e.1, .int .i64 e.2.1, .slice Bm m d] := BN1.grown g2 (by intro hh; injection hh with hh; omega)
              have M2' : MapS w2 w.heap.size ((pre ++ [e]).map (·.1)) := by rw [List.map_append]; exact M2
              have HPS : Hid (xs.take (k + 1) = pre ++ [e]) := by show _ = _; rw [take_snoc HX.out, HP.out]
              obtain ⟨n, hne⟩ : ∃ n : Nat, e.2.1 = (n : Int) := ⟨e.2.1.toNat, by have h1 := hsm.1; omega⟩
              have HCAN := Lib.hid (canonical_any [.int .i64 e.2.1, .slice Bm m d] e.2 n w2 (shAlgebra.stab hral T2.block) hsm hne)
              have HEX : Hid (((n : Int), (canA e.2).2) = canA e.2) := by show _ = _; rw [← hne]; rfl
              have HRX : Hid (InR (n : Int)) := by show InR _; rw [← hne]; exact small_R hsm
              clear cN0 cN1 cN2 hlook hne
              have cL0 := BN1.cell 0
              clear M2 M1 Mb BN BN1 cc0 cc1 cc2 hM
              have cN0 := BN2.cell 0
              have cN1 := BN2.cell 1
              have cN2 := BN2.cell 2
              simp at cN0 cN1 cN2 cL0
              go_wp2_with fail
              clear cN0 cN1 cN2 cL0 hput
              refine HCAN.out.mono ?_
              rintro e' w3 ⟨vb, css, bls, Af, cf, rfl, hP, -, hb3⟩
              have T3 := below_next T2 hb3 rfl
              have BN3 := BN2.next hb3
              have M3 := M2'.next hb3
              obtain ⟨VX, vcx, rfl⟩ := own_slice hP.2.1
              obtain ⟨LX, HLX⟩ : ∃ L, Hid ((canA e.2).2.length = L) := ⟨_, rfl⟩
              rw [HLX.out] at hP
              rw [HLX.out]
              obtain ⟨w4, hw4, T4', -, BX⟩ := boxes1 w3 #[.int .i64 (n : Int), .slice VX LX vcx] 38
              have HW4 := Lib.hid hw4
              have T4 := below_next T3 T4' rfl
              have BN4 := BN3.next T4'
              have M4 := M3.next T4'
              have rdx : shAlgebra.rd w4 [.int .i64 (n : Int), .slice VX LX vcx] (canA e.2) := by
                have := (hP.next T4').alg HRX.out
                rw [HEX.out] at this
                exact this
              have rdm := shAlgebra.stab hral T4.block
              clear hw4 hP BN2 M2'
              go_upto_region 11 with fail
              rw [← HW4.out]
              have cX0 := BX.cell 0
              have cX1 := BX.cell 1
              have cN1 := BN4.cell 1
              have cN2 := BN4.cell 2
              simp at cX0 cX1 cN1 cN2
              go_wp2_with fail
              refine (sameAlgebra_any _ _ _ _ _ rdx rdm).mono ?_
              rintro e' w5 ⟨rfl, hb5⟩
              have T5 := below_next T4 hb5 rfl
              have M5 := M4.next hb5
              have BN5 := BN4.next hb5
              obtain ⟨r4, HR4⟩ : ∃ r, Hid (eqC (canA e.2) e.2 = r) := ⟨_, rfl⟩
              rw [HR4.out]
              rw [HR4.out] at HOK
              clear cX0 cX1 cN1 cN2
              rcases r4 with _ | _
              · go_wp2_with fail
                go_ret
                exact ⟨ret_bool (HH.out.stop HD.out (by rw [HOK.out]; rfl)), T5⟩
              · have HSN : Hid (∀ e' ∈ xs.take (k + 1), SmallP e'.2) := by
                  show ∀ e' ∈ xs.take (k + 1), SmallP e'.2
                  intro e' he'
                  rw [HPS.out, List.mem_append] at he'
                  rcases he' with h1 | h1
                  · exact HST.out e' (by rw [HP.out]; exact h1)
                  · rw [List.mem_singleton] at h1
                    subst h1
                    exact hsm
                by_cases hk00 : k = 0
                · have hkz : ¬ (0 : Int) < (k : Int) := by omega
                  have HLB : Hid (lastB pre e = true) := by
                    show _ = _
                    have : pre = [] := List.eq_nil_of_length_eq_zero (by rw [HPL.out]; exact hk00)
                    rw [this]
                    rfl
                  clear hk00
                  go_upto_region 13 with fail
                  have hkz2 : decide (0 < k) = false := decide_eq_false (by omega)
                  go_quiet (fail)
                  clear hkz2
                  go_wp2_with fail
                  go_roundw
                  case rel => exact ⟨k + 1, by omega, by go_num, HH.out.step HD.out HX.out (by rw [HOK.out, HLB.out]; rfl), HSN.out, by rw [HPS.out]; exact M5, below_drewN T5 _⟩
                  case measure => simp [intOf]; omega
                · have hkz : (0 : Int) < (k : Int) := by omega
                  obtain ⟨b', o', vs', p, hA', -, hc', hr', -, hxp⟩ := h.at (k := k - 1) (by omega)
                  have hA2 := hA'
                  simp only [Option.some.injEq, Addr.mk.injEq, and_true] at hA2
                  obtain ⟨rfl, rfl⟩ := hA2
                  obtain ⟨Bp, mp, dp, rfl, -, hIp, hops'⟩ := rdEntry hr'
                  have hpm : p ∈ xs.take k := by
                    have : (xs.take k)[k - 1]? = some p := by rw [List.getElem?_take, if_pos (by omega)]; exact hxp
                    exact List.mem_of_getElem? this
                  have hsp := HST.out p hpm
                  have HLB : Hid (lastB pre e = befB p.2 e.2) := by
                    show _ = _
                    unfold lastB
                    rw [← HP.out, List.getLast?_take, if_neg hk00, hxp]
                    rfl
                  have hral' := mkAlgebra (cOps := dp) hIp hops'
                  have d1 : w5.cell? ⟨b, o + (k - 1) * 3 + 1, none⟩ = some (.int .i64 p.2.1) := keepc T5 (hc' 1 _ rfl)
                  have d2 : w5.cell? ⟨b, o + (k - 1) * 3 + 2, none⟩ = some (.slice Bp mp dp) := keepc T5 (hc' 2 _ rfl)
                  have hB := befB_cmp p.2 e.2
                  obtain ⟨cv, HCV⟩ : ∃ cv, Hid (cmpI p.2 e.2 = cv) := ⟨_, rfl⟩
                  rw [HCV.out] at hB
                  have HB := Lib.hid hB
                  have HC1 : ∀ wz, Below w5.heap.size w5 wz → Calls Try.prog 97 #[.agg #[.int .i64 p.2.1, .slice Bp mp dp], .agg #[.int .i64 e.2.1, .slice Bm m d]] wz (Bl wz (.int .i64 cv)) := fun wz hz => by
                    have T := below_next T5 hz rfl
                    have := compareModels_any [.int .i64 p.2.1, .slice Bp mp dp] [.int .i64 e.2.1, .slice Bm m d] p.2 e.2 wz (shAlgebra.stab hral' T.block) (shAlgebra.stab hral T.block) hsp hsm
                    rw [HCV.out] at this
                    exact this
                  clear hk00 hA' hc' hr' hxp hpm hB hops' hops hIp
                  go_upto_region 13 with fail
                  have Tk : Below w5.heap.size w5 w5 := Below.refl _ _
                  have cN1 := BN5.cell 1
                  have cN2 := BN5.cell 2
                  simp at cN1 cN2
                  have hw1 : IntKind.i64.wrap ((k : Int) - 1) = (k : Int) - 1 := IntWalk.i64_in _ ⟨by omega, by omega⟩
                  have hw2 : ((k : Int) - 1).toNat = k - 1 := by omega
                  have hw3 : (0 : Int) ≤ (k : Int) - 1 := by omega
                  have hw4 : (k : Int) - 1 < (xs.length : Int) := by omega
                  have hkz2 : decide (0 < k) = true := decide_eq_true (by omega)
                  have hw5 : (1 : Int) ≤ (k : Int) := by omega
                  have hw6 : (k : Int) ≤ (xs.length : Int) := by omega
                  have hw7 : 1 ≤ k := by omega
                  have hw8 : 0 < k := by omega
                  go_cut [62] (fun v62 wx => v62 = .bool (decide (0 ≤ cv)) ∧ Below w5.heap.size w5 wx)
                  case first =>
                    go_region_held3 (fun w' => w'.cell? ⟨wr.heap.size, 1, none⟩ = some (.int .i64 e.2.1) ∧ w'.cell? ⟨wr.heap.size, 2, none⟩ = some (.slice Bm m d) ∧ w'.cell? ⟨b, o + (k - 1) * 3 + 1, none⟩ = some (.int .i64 p.2.1) ∧ w'.cell? ⟨b, o + (k - 1) * 3 + 2, none⟩ = some (.slice Bp mp dp)) (first | go_keep | exact ⟨keepc Tk cN1, keepc Tk cN2, keepc Tk d1, keepc Tk d2⟩) (first
                      | (go_at_call 97; (with_reducible refine (HC1 _ ?_).mono ?_); (first | exact Tk | exact Below.drew Tk); rintro e' wn ⟨rfl, hbn⟩; replace Tk := below_next (by first | exact Tk | exact Below.drew Tk) hbn rfl))
                    all_goals
                      go_wp2_with fail
                      go_meet
                      exact ⟨rfl, by first | exact Tk | exact Below.drew Tk⟩
                  case rest =>
                    obtain ⟨rfl, hTc⟩ := hcut
                    have T6 := below_next T5 hTc rfl
                    have M6 := M5.next hTc
                    clear cN1 cN2 d1 d2 HC1 Tk hw1 hw2 hw3 hw4 hw5 hw6 hw7 hw8 hkz2
                    by_cases hcv : cv < 0
                    · have hcv' : decide (0 ≤ cv) = false := decide_eq_false (by omega)
                      have HB2 : Hid (befB p.2 e.2 = true) := by show _ = _; rw [HB.out]; exact decide_eq_true hcv
                      go_wp2_with fail
                      go_roundw
                      case rel => exact ⟨k + 1, by omega, by go_num, HH.out.step HD.out HX.out (by rw [HOK.out, HLB.out, HB2.out]; rfl), HSN.out, by rw [HPS.out]; exact M6, T6⟩
                      case measure => simp [intOf]; omega
                    · have hcv' : decide (0 ≤ cv) = true := decide_eq_true (by omega)
                      have HB2 : Hid (befB p.2 e.2 = false) := by show _ = _; rw [HB.out]; exact decide_eq_false hcv
                      go_wp2_with fail
                      go_ret
                      exact ⟨ret_bool (HH.out.stop HD.out (by rw [HOK.out, HLB.out, HB2.out]; rfl)), T6⟩
          · go_wp2_with fail
            rw [← HWB.out]
            go_wp2_with (go_at_call 55; refine (isName_any _ _ hsz).mono ?_; rintro e' w' ⟨rfl, rfl⟩; rw [HR1.out])
            go_ret
            exact ⟨ret_bool (HH.out.stop HD.out (by rw [HOK.out]; rfl)), Tb⟩
      · have hlt' : ¬ (k : Int) < (xs.length : Int) := by omega
        have HH := Lib.hid H
        clear H hS hM
        go_wp2_with fail
        go_ret
        exact ⟨ret_bool (HH.out.done hn hlt), hTw⟩
  · have hn' : (12 : Int) < (xs.length : Int) := by omega
    go_enter Try.func44, Try.ntmps44
    go_wp2_with fail
    go_ret
    exact ⟨ret_bool (catB_big hn), Below.refl _ _⟩
end Go.Proofs.Ytbpdbimdefdefaa
namespace Go.Proofs.Ytbpdbimdefdefaa
open Go.RowKit

theorem hasS_step {e : EntryM} {xs : List EntryM} {j : Nat} {f : EntryM} (h : hasS e.1 ((xs.take j).map (·.1)) = false) (hx : xs[j]? = some f) (hne : ¬ f.1 = e.1) : hasS e.1 ((xs.take (j + 1)).map (·.1)) = false := by
  rw [take_snoc hx, List.map_append, List.map_cons, List.map_nil, hasS_snoc, h, eqC_no.2 hne]
  rfl
theorem hasS_hit {e : EntryM} {xs : List EntryM} {j k : Nat} {f : EntryM} (hj : j < k) (hx : xs[j]? = some f) (he : f.1 = e.1) : hasS e.1 ((xs.take k).map (·.1)) = true := by
  rw [hasS_iff, List.mem_map]
  refine ⟨f, List.mem_of_getElem? (i := j) ?_, he⟩
  rw [List.getElem?_take, if_pos hj]
  exact hx
theorem l31Name_is {s : ByteArray} {w : World} {r : Bool} (hr : nameB s = r) (hs : s.size ≤ maxLen) : Calls Try.prog 41 #[.string s] w (Qt w (.bool r)) := hr ▸ quiet_same (l31Name_any s w hs)
set_option linter.unusedSimpArgs false in
set_option maxRecDepth 100000 in
set_option maxHeartbeats 16000000 in
theorem l31Good_any (A : Option Addr) (n c : Nat) (xs : List EntryM) (w : World) (h : RdN shEntry.m shEntry.rd w A n xs) :
    Calls Try.prog 40 #[.slice A n c] w (Bl w (.bool (catB xs))) := by
  obtain rfl : xs.length = n := h.len
  have hle := h.le
  by_cases hn : xs.length ≤ 12
  · have hn' : ¬ (12 : Int) < (xs.length : Int) := by omega
    go_enter Try.func40, Try.ntmps40
    go_wp2_with fail
    go_loopw [3] (fun i wr => ∃ k : Nat, k ≤ xs.length ∧ i = .int .i64 k ∧ CatAt xs k ∧ (∀ e ∈ xs.take k, SmallP e.2) ∧ Below w.heap.size w wr) (fun i _ => xs.length - (intOf i).toNat)
    case atStart => exact ⟨0, Nat.zero_le _, rfl, rfl, (fun e he => by simp at he), Below.refl _ _⟩
    case round =>
      obtain ⟨k, hk, rfl, H, hS, hTw⟩ := hrel
      by_cases hlt : k < xs.length
      · obtain ⟨b, o, vs, e, hA, -, hc, hr, hd, hxe⟩ := h.at hlt
        obtain ⟨Bm, m, d, rfl, hsz, hIn, hops⟩ := rdEntry hr
        have cc0 : wr.cell? ⟨b, o + k * 3, none⟩ = some (.string e.1) := keepc hTw (hc 0 _ rfl)
        have cc1 : wr.cell? ⟨b, o + k * 3 + 1, none⟩ = some (.int .i64 e.2.1) := keepc hTw (hc 1 _ rfl)
        have cc2 : wr.cell? ⟨b, o + k * 3 + 2, none⟩ = some (.slice Bm m d) := keepc hTw (hc 2 _ rfl)
        have hral := mkAlgebra (cOps := d) hIn hops
        have HST := Lib.hid hS
        have HH := Lib.hid H
        have HD := Lib.hid hd
        have HX := Lib.hid hxe
        have hk0 : (0 : Int) ≤ (k : Int) := by omega
        have hk1 : (k : Int) < (xs.length : Int) := by omega
        subst hA
        obtain ⟨pre, HP⟩ : ∃ pre, Hid (xs.take k = pre) := ⟨_, rfl⟩
        have hpl : pre.length = k := by rw [← HP.out, List.length_take]; omega
        have HPL := Lib.hid hpl
        obtain ⟨r1, HR1⟩ : ∃ r, Hid (nameB e.1 = r) := ⟨_, rfl⟩
        obtain ⟨r3, HR3⟩ : ∃ r, Hid (smallB e.2 = r) := ⟨_, rfl⟩
        have HOK : Hid (okE (xs.take k) e = (r1 && (!hasS e.1 ((xs.take k).map (·.1)) && (r3 && (eqC (canA e.2) e.2 && lastB pre e))))) := by show _ = _; rw [HP.out]; unfold okE; rw [HR1.out, HR3.out]
        have HT1 : ∀ wz, Below wr.heap.size wr wz → Calls Try.prog 51 #[.agg #[.int .i64 e.2.1, .slice Bm m d]] wz (Bl wz (.bool r3)) := fun wz hz => by
          have T := below_next hTw hz rfl
          have := l31Takes_any [.int .i64 e.2.1, .slice Bm m d] e.2 wz (shAlgebra.stab hral T.block)
          rw [HR3.out] at this
          exact this
        clear hS H hd hxe hc hr hpl
        have Tk : Below wr.heap.size wr wr := Below.refl _ _
        rcases r1 with _ | _
        · go_upto_region 6 with fail
          go_quiet ((go_at_call 41; exact quiet_one (l31Name_is HR1.out hsz)))
          go_wp2_with fail
          go_ret
          exact ⟨ret_bool (HH.out.stop HD.out (by rw [HOK.out]; rfl)), below_drewN hTw _⟩
        · obtain ⟨q, HQ⟩ : ∃ q, Hid ((r3 && lastB pre e) = q) := ⟨_, rfl⟩
          have HOK2 : Hid (okE (xs.take k) e = (!hasS e.1 ((xs.take k).map (·.1)) && (eqC (canA e.2) e.2 && q))) := by
            show _ = _
            rw [HOK.out, ← HQ.out]
            rcases hasS e.1 ((xs.take k).map (·.1)) <;> rcases r3 <;> rcases eqC (canA e.2) e.2 <;> rcases lastB pre e <;> rfl
          go_upto_region 6 with fail
          go_cut [48] from 8 to 77 (fun v48 wx => v48 = .bool (!q) ∧ Below wr.heap.size wr wx)
          case first =>
            rcases r3 with _ | _
            · obtain rfl : false = q := HQ.out
              refine wp_region_held_drew (S := fun w' => w'.cell? ⟨b, o + k * 3, none⟩ = some (.string e.1) ∧ w'.cell? ⟨b, o + k * 3 + 1, none⟩ = some (.int .i64 e.2.1) ∧ w'.cell? ⟨b, o + k * 3 + 2, none⟩ = some (.slice Bm m d)) (by kernel_rfl) ⟨cc0, cc1, cc2⟩ (fun hHeld0 => ?_)
              refine wpAnyH_take (i := 0) (v := .slice (some ⟨b, o, none⟩) xs.length c) rfl (by kernel_rfl) (by kernel_rfl) (by kernel_rfl) (fun _ _ _ h => h) (Or.inl ⟨by kernel_rfl, fun _ _ => by go_simp⟩) (by assumption) ?_
              (try simp only [Act.put, List.setIfInBounds_toArray, List.set_cons_zero, List.set_cons_succ])
              refine wpAnyH_take (i := 1) (v := .int .i64 (k : Int)) rfl (by kernel_rfl) (by kernel_rfl) (by kernel_rfl) (fun _ _ _ h => h) (Or.inl ⟨by kernel_rfl, fun _ _ => by go_simp⟩) (by assumption) ?_
              (try simp only [Act.put, List.setIfInBounds_toArray, List.set_cons_zero, List.set_cons_succ])
              refine wpAnyH_take (i := 2) (v := .pointer (some ⟨b, o + k * 3, none⟩)) rfl (by kernel_rfl) (by kernel_rfl) (by kernel_rfl) (fun _ _ _ h => h) (Or.inl ⟨by kernel_rfl, fun _ _ => by go_simp⟩) (by assumption) ?_
              (try simp only [Act.put, List.setIfInBounds_toArray, List.set_cons_zero, List.set_cons_succ])
              refine wpAnyH_take (i := 3) (v := .pointer (some ⟨b, o + k * 3, none⟩)) rfl (by kernel_rfl) (by kernel_rfl) (by kernel_rfl) (fun _ _ _ h => h) (Or.inl ⟨by kernel_rfl, fun _ _ => by go_simp⟩) (by assumption) ?_
              (try simp only [Act.put, List.setIfInBounds_toArray, List.set_cons_zero, List.set_cons_succ])
              refine wpAnyH_take (i := 4) (v := .string e.1) rfl (by kernel_rfl) (by kernel_rfl) (by kernel_rfl) (fun _ _ _ h => h) (Or.inl ⟨by kernel_rfl, fun wv hSw => by (obtain ⟨hS0, hS1, hS2⟩ := hSw); go_simp⟩) (by assumption) ?_
              (try simp only [Act.put, List.setIfInBounds_toArray, List.set_cons_zero, List.set_cons_succ])
              refine wpAnyH_ready (rs := [5]) (by kernel_rfl) (by simp) ?_
              refine AllReadyH.cons rfl (fun K hK => ?_) AllReadyH.nil
              go_simp
              refine (l31Name_any _ _ hsz).mono ?_
              rintro e' wn ⟨rfl, rfl⟩
              rw [HR1.out]
              replace Tk := Below.drew Tk
              go_wp2_with fail
              refine hK.out _ _ ⟨keepc Tk cc0, keepc Tk cc1, keepc Tk cc2⟩ (fun hHeld1 => ?_)
              clear hK K hHeld0
              (try simp only [Act.put, List.setIfInBounds_toArray, List.set_cons_zero, List.set_cons_succ])
              refine wpAnyH_take (i := 6) (v := .bool false) rfl (by kernel_rfl) (by kernel_rfl) (by kernel_rfl) (fun _ _ _ h => h) (Or.inl ⟨by kernel_rfl, fun _ _ => by go_simp⟩) (by assumption) ?_
              (try simp only [Act.put, List.setIfInBounds_toArray, List.set_cons_zero, List.set_cons_succ])
              refine wpAnyH_take (i := 7) (v := .bool false) rfl (by kernel_rfl) (by kernel_rfl) (by kernel_rfl) (fun _ _ _ h => h) (Or.inl ⟨by kernel_rfl, fun _ _ => by go_simp⟩) (by assumption) ?_
              (try simp only [Act.put, List.setIfInBounds_toArray, List.set_cons_zero, List.set_cons_succ])
              refine wpAnyH_take (i := 8) (v := .slice (some ⟨b, o, none⟩) xs.length c) rfl (by kernel_rfl) (by kernel_rfl) (by kernel_rfl) (fun _ _ _ h => h) (Or.inl ⟨by kernel_rfl, fun _ _ => by go_simp⟩) (by assumption) ?_
              (try simp only [Act.put, List.setIfInBounds_toArray, List.set_cons_zero, List.set_cons_succ])
              refine wpAnyH_take (i := 9) (v := .int .i64 (k : Int)) rfl (by kernel_rfl) (by kernel_rfl) (by kernel_rfl) (fun _ _ _ h => h) (Or.inl ⟨by kernel_rfl, fun _ _ => by go_simp⟩) (by assumption) ?_
              (try simp only [Act.put, List.setIfInBounds_toArray, List.set_cons_zero, List.set_cons_succ])
              refine wpAnyH_take (i := 10) (v := .pointer (some ⟨b, o + k * 3, none⟩)) rfl (by kernel_rfl) (by kernel_rfl) (by kernel_rfl) (fun _ _ _ h => h) (Or.inl ⟨by kernel_rfl, fun _ _ => by go_simp⟩) (by assumption) ?_
              (try simp only [Act.put, List.setIfInBounds_toArray, List.set_cons_zero, List.set_cons_succ])
              refine wpAnyH_take (i := 11) (v := .pointer (some ⟨b, o + k * 3 + 1, none⟩)) rfl (by kernel_rfl) (by kernel_rfl) (by kernel_rfl) (fun _ _ _ h => h) (Or.inl ⟨by kernel_rfl, fun _ _ => by go_simp⟩) (by assumption) ?_
              (try simp only [Act.put, List.setIfInBounds_toArray, List.set_cons_zero, List.set_cons_succ])
              refine wpAnyH_take (i := 12) (v := .agg #[.int .i64 e.2.1, .slice Bm m d]) rfl (by kernel_rfl) (by kernel_rfl) (by kernel_rfl) (fun _ _ _ h => h) (Or.inl ⟨by kernel_rfl, fun wv hSw => by (obtain ⟨hS0, hS1, hS2⟩ := hSw); go_simp⟩) (by assumption) ?_
              (try simp only [Act.put, List.setIfInBounds_toArray, List.set_cons_zero, List.set_cons_succ])
              refine wpAnyH_ready (rs := [13]) (by kernel_rfl) (by simp) ?_
              refine AllReadyH.cons rfl (fun K hK => ?_) AllReadyH.nil
              go_simp
              refine (HT1 _ Tk).mono ?_
              rintro e' wn ⟨rfl, hbn⟩
              replace Tk := below_next Tk hbn rfl
              go_wp2_with fail
              refine hK.out _ _ ⟨keepc Tk cc0, keepc Tk cc1, keepc Tk cc2⟩ (fun hHeld2 => ?_)
              clear hK K hHeld1
              (try simp only [Act.put, List.setIfInBounds_toArray, List.set_cons_zero, List.set_cons_succ])
              refine wpAnyH_take (i := 14) (v := .bool true) rfl (by kernel_rfl) (by kernel_rfl) (by kernel_rfl) (fun _ _ _ h => h) (Or.inl ⟨by kernel_rfl, fun _ _ => by go_simp⟩) (by assumption) ?_
              (try simp only [Act.put, List.setIfInBounds_toArray, List.set_cons_zero, List.set_cons_succ])
              refine wpAnyH_take (i := 15) (v := .bool true) rfl (by kernel_rfl) (by kernel_rfl) (by kernel_rfl) (fun _ _ _ h => h) (Or.inl ⟨by kernel_rfl, fun _ _ => by go_simp⟩) (by assumption) ?_
              (try simp only [Act.put, List.setIfInBounds_toArray, List.set_cons_zero, List.set_cons_succ])
              refine wpAnyH_take (i := 16) (v := .bool true) rfl (by kernel_rfl) (by kernel_rfl) (by kernel_rfl) (fun _ _ _ h => h) (Or.inl ⟨by kernel_rfl, fun _ _ => by go_simp⟩) (by assumption) ?_
              (try simp only [Act.put, List.setIfInBounds_toArray, List.set_cons_zero, List.set_cons_succ])
              refine wpAnyH_take (i := 17) (v := undef) rfl (by kernel_rfl) (by kernel_rfl) (by kernel_rfl) (fun _ _ _ h => h) (Or.inr ⟨by kernel_rfl, rfl⟩) (by assumption) ?_
              (try simp only [Act.put, List.setIfInBounds_toArray, List.set_cons_zero, List.set_cons_succ])
              refine wpAnyH_take (i := 18) (v := undef) rfl (by kernel_rfl) (by kernel_rfl) (by kernel_rfl) (fun _ _ _ h => h) (Or.inr ⟨by kernel_rfl, rfl⟩) (by assumption) ?_
              (try simp only [Act.put, List.setIfInBounds_toArray, List.set_cons_zero, List.set_cons_succ])
              refine wpAnyH_take (i := 19) (v := undef) rfl (by kernel_rfl) (by kernel_rfl) (by kernel_rfl) (fun _ _ _ h => h) (Or.inr ⟨by kernel_rfl, rfl⟩) (by assumption) ?_
              (try simp only [Act.put, List.setIfInBounds_toArray, List.set_cons_zero, List.set_cons_succ])
              refine wpAnyH_take (i := 20) (v := undef) rfl (by kernel_rfl) (by kernel_rfl) (by kernel_rfl) (fun _ _ _ h => h) (Or.inr ⟨by kernel_rfl, rfl⟩) (by assumption) ?_
              (try simp only [Act.put, List.setIfInBounds_toArray, List.set_cons_zero, List.set_cons_succ])
              refine wpAnyH_take (i := 21) (v := undef) rfl (by kernel_rfl) (by kernel_rfl) (by kernel_rfl) (fun _ _ _ h => h) (Or.inr ⟨by kernel_rfl, rfl⟩) (by assumption) ?_
              (try simp only [Act.put, List.setIfInBounds_toArray, List.set_cons_zero, List.set_cons_succ])
              refine wpAnyH_take (i := 22) (v := undef) rfl (by kernel_rfl) (by kernel_rfl) (by kernel_rfl) (fun _ _ _ h => h) (Or.inr ⟨by kernel_rfl, rfl⟩) (by assumption) ?_
              (try simp only [Act.put, List.setIfInBounds_toArray, List.set_cons_zero, List.set_cons_succ])
              refine wpAnyH_take (i := 23) (v := undef) rfl (by kernel_rfl) (by kernel_rfl) (by kernel_rfl) (fun _ _ _ h => h) (Or.inr ⟨by kernel_rfl, rfl⟩) (by assumption) ?_
              (try simp only [Act.put, List.setIfInBounds_toArray, List.set_cons_zero, List.set_cons_succ])
              refine wpAnyH_take (i := 24) (v := undef) rfl (by kernel_rfl) (by kernel_rfl) (by kernel_rfl) (fun _ _ _ h => h) (Or.inr ⟨by kernel_rfl, rfl⟩) (by assumption) ?_
              (try simp only [Act.put, List.setIfInBounds_toArray, List.set_cons_zero, List.set_cons_succ])
              refine wpAnyH_take (i := 25) (v := undef) rfl (by kernel_rfl) (by kernel_rfl) (by kernel_rfl) (fun _ _ _ h => h) (Or.inr ⟨by kernel_rfl, rfl⟩) (by assumption) ?_
              (try simp only [Act.put, List.setIfInBounds_toArray, List.set_cons_zero, List.set_cons_succ])
              refine wpAnyH_take (i := 26) (v := undef) rfl (by kernel_rfl) (by kernel_rfl) (by kernel_rfl) (fun _ _ _ h => h) (Or.inr ⟨by kernel_rfl, rfl⟩) (by assumption) ?_
              (try simp only [Act.put, List.setIfInBounds_toArray, List.set_cons_zero, List.set_cons_succ])
              refine wpAnyH_take (i := 27) (v := undef) rfl (by kernel_rfl) (by kernel_rfl) (by kernel_rfl) (fun _ _ _ h => h) (Or.inr ⟨by kernel_rfl, rfl⟩) (by assumption) ?_
              (try simp only [Act.put, List.setIfInBounds_toArray, List.set_cons_zero, List.set_cons_succ])
              refine wpAnyH_take (i := 28) (v := undef) rfl (by kernel_rfl) (by kernel_rfl) (by kernel_rfl) (fun _ _ _ h => h) (Or.inr ⟨by kernel_rfl, rfl⟩) (by assumption) ?_
              (try simp only [Act.put, List.setIfInBounds_toArray, List.set_cons_zero, List.set_cons_succ])
              refine wpAnyH_take (i := 29) (v := undef) rfl (by kernel_rfl) (by kernel_rfl) (by kernel_rfl) (fun _ _ _ h => h) (Or.inr ⟨by kernel_rfl, rfl⟩) (by assumption) ?_
              (try simp only [Act.put, List.setIfInBounds_toArray, List.set_cons_zero, List.set_cons_succ])
              refine wpAnyH_take (i := 30) (v := undef) rfl (by kernel_rfl) (by kernel_rfl) (by kernel_rfl) (fun _ _ _ h => h) (Or.inr ⟨by kernel_rfl, rfl⟩) (by assumption) ?_
              (try simp only [Act.put, List.setIfInBounds_toArray, List.set_cons_zero, List.set_cons_succ])
              refine wpAnyH_take (i := 31) (v := undef) rfl (by kernel_rfl) (by kernel_rfl) (by kernel_rfl) (fun _ _ _ h => h) (Or.inr ⟨by kernel_rfl, rfl⟩) (by assumption) ?_
              (try simp only [Act.put, List.setIfInBounds_toArray, List.set_cons_zero, List.set_cons_succ])
              refine wpAnyH_take (i := 32) (v := undef) rfl (by kernel_rfl) (by kernel_rfl) (by kernel_rfl) (fun _ _ _ h => h) (Or.inr ⟨by kernel_rfl, rfl⟩) (by assumption) ?_
              (try simp only [Act.put, List.setIfInBounds_toArray, List.set_cons_zero, List.set_cons_succ])
              refine wpAnyH_take (i := 33) (v := undef) rfl (by kernel_rfl) (by kernel_rfl) (by kernel_rfl) (fun _ _ _ h => h) (Or.inr ⟨by kernel_rfl, rfl⟩) (by assumption) ?_
              (try simp only [Act.put, List.getElem_toArray, List.getElem_cons_zero, List.getElem_cons_succ, List.setIfInBounds_toArray, List.set_cons_zero, List.set_cons_succ])
              refine wpAnyH_take (i := 34) (v := .bool true) rfl (by kernel_rfl) (by kernel_rfl) (by kernel_rfl) (fun _ _ _ h => h) (Or.inl ⟨by kernel_rfl, fun _ _ => by go_simp⟩) (by assumption) ?_
              (try simp only [Act.put, List.getElem_toArray, List.getElem_cons_zero, List.getElem_cons_succ, List.setIfInBounds_toArray, List.set_cons_zero, List.set_cons_succ])
              refine wpAnyH_done (by kernel_rfl) ?_ _
              all_goals
                go_wp2_with fail
                go_meet
                exact ⟨rfl, by first | exact Tk | exact Below.drew Tk⟩
            · have hsm := small_iff.1 HR3.out
              by_cases hk00 : k = 0
              · have HLB : Hid (true = q) := by
                  show _ = _
                  have : pre = [] := List.eq_nil_of_length_eq_zero (by rw [HPL.out]; exact hk00)
                  have h2 := HQ.out
                  rw [this] at h2
                  exact h2
                have hq : (!q) = false := by rw [← HLB.out]; rfl
                have HQ3 := Lib.hid hq
                have hkz2 : decide (0 < k) = false := decide_eq_false (by omega)
                clear hk00 hq
                refine wp_region_held_drew (S := fun w' => w'.cell? ⟨b, o + k * 3, none⟩ = some (.string e.1) ∧ w'.cell? ⟨b, o + k * 3 + 1, none⟩ = some (.int .i64 e.2.1) ∧ w'.cell? ⟨b, o + k * 3 + 2, none⟩ = some (.slice Bm m d)) (by kernel_rfl) ⟨cc0, cc1, cc2⟩ (fun hHeld0 => ?_)
                refine wpAnyH_take (i := 0) (v := .slice (some ⟨b, o, none⟩) xs.length c) rfl (by kernel_rfl) (by kernel_rfl) (by kernel_rfl) (fun _ _ _ h => h) (Or.inl ⟨by kernel_rfl, fun _ _ => by go_simp⟩) (by assumption) ?_
                (try simp only [Act.put, List.setIfInBounds_toArray, List.set_cons_zero, List.set_cons_succ])
                refine wpAnyH_take (i := 1) (v := .int .i64 (k : Int)) rfl (by kernel_rfl) (by kernel_rfl) (by kernel_rfl) (fun _ _ _ h => h) (Or.inl ⟨by kernel_rfl, fun _ _ => by go_simp⟩) (by assumption) ?_
                (try simp only [Act.put, List.setIfInBounds_toArray, List.set_cons_zero, List.set_cons_succ])
                refine wpAnyH_take (i := 2) (v := .pointer (some ⟨b, o + k * 3, none⟩)) rfl (by kernel_rfl) (by kernel_rfl) (by kernel_rfl) (fun _ _ _ h => h) (Or.inl ⟨by kernel_rfl, fun _ _ => by go_simp⟩) (by assumption) ?_
                (try simp only [Act.put, List.setIfInBounds_toArray, List.set_cons_zero, List.set_cons_succ])
                refine wpAnyH_take (i := 3) (v := .pointer (some ⟨b, o + k * 3, none⟩)) rfl (by kernel_rfl) (by kernel_rfl) (by kernel_rfl) (fun _ _ _ h => h) (Or.inl ⟨by kernel_rfl, fun _ _ => by go_simp⟩) (by assumption) ?_
                (try simp only [Act.put, List.setIfInBounds_toArray, List.set_cons_zero, List.set_cons_succ])
                refine wpAnyH_take (i := 4) (v := .string e.1) rfl (by kernel_rfl) (by kernel_rfl) (by kernel_rfl) (fun _ _ _ h => h) (Or.inl ⟨by kernel_rfl, fun wv hSw => by (obtain ⟨hS0, hS1, hS2⟩ := hSw); go_simp⟩) (by assumption) ?_
                (try simp only [Act.put, List.setIfInBounds_toArray, List.set_cons_zero, List.set_cons_succ])
                refine wpAnyH_ready (rs := [5]) (by kernel_rfl) (by simp) ?_
                refine AllReadyH.cons rfl (fun K hK => ?_) AllReadyH.nil
                go_simp
                refine (l31Name_any _ _ hsz).mono ?_
                rintro e' wn ⟨rfl, rfl⟩
                rw [HR1.out]
                replace Tk := Below.drew Tk
                go_wp2_with fail
                refine hK.out _ _ ⟨keepc Tk cc0, keepc Tk cc1, keepc Tk cc2⟩ (fun hHeld1 => ?_)
                clear hK K hHeld0
                (try simp only [Act.put, List.setIfInBounds_toArray, List.set_cons_zero, List.set_cons_succ])
                refine wpAnyH_take (i := 6) (v := .bool false) rfl (by kernel_rfl) (by kernel_rfl) (by kernel_rfl) (fun _ _ _ h => h) (Or.inl ⟨by kernel_rfl, fun _ _ => by go_simp⟩) (by assumption) ?_
                (try simp only [Act.put, List.setIfInBounds_toArray, List.set_cons_zero, List.set_cons_succ])
                refine wpAnyH_take (i := 7) (v := .bool false) rfl (by kernel_rfl) (by kernel_rfl) (by kernel_rfl) (fun _ _ _ h => h) (Or.inl ⟨by kernel_rfl, fun _ _ => by go_simp⟩) (by assumption) ?_
                (try simp only [Act.put, List.setIfInBounds_toArray, List.set_cons_zero, List.set_cons_succ])
                refine wpAnyH_take (i := 8) (v := .slice (some ⟨b, o, none⟩) xs.length c) rfl (by kernel_rfl) (by kernel_rfl) (by kernel_rfl) (fun _ _ _ h => h) (Or.inl ⟨by kernel_rfl, fun _ _ => by go_simp⟩) (by assumption) ?_
                (try simp only [Act.put, List.setIfInBounds_toArray, List.set_cons_zero, List.set_cons_succ])
                refine wpAnyH_take (i := 9) (v := .int .i64 (k : Int)) rfl (by kernel_rfl) (by kernel_rfl) (by kernel_rfl) (fun _ _ _ h => h) (Or.inl ⟨by kernel_rfl, fun _ _ => by go_simp⟩) (by assumption) ?_
                (try simp only [Act.put, List.setIfInBounds_toArray, List.set_cons_zero, List.set_cons_succ])
                refine wpAnyH_take (i := 10) (v := .pointer (some ⟨b, o + k * 3, none⟩)) rfl (by kernel_rfl) (by kernel_rfl) (by kernel_rfl) (fun _ _ _ h => h) (Or.inl ⟨by kernel_rfl, fun _ _ => by go_simp⟩) (by assumption) ?_
                (try simp only [Act.put, List.setIfInBounds_toArray, List.set_cons_zero, List.set_cons_succ])
                refine wpAnyH_take (i := 11) (v := .pointer (some ⟨b, o + k * 3 + 1, none⟩)) rfl (by kernel_rfl) (by kernel_rfl) (by kernel_rfl) (fun _ _ _ h => h) (Or.inl ⟨by kernel_rfl, fun _ _ => by go_simp⟩) (by assumption) ?_
                (try simp only [Act.put, List.setIfInBounds_toArray, List.set_cons_zero, List.set_cons_succ])
                refine wpAnyH_take (i := 12) (v := .agg #[.int .i64 e.2.1, .slice Bm m d]) rfl (by kernel_rfl) (by kernel_rfl) (by kernel_rfl) (fun _ _ _ h => h) (Or.inl ⟨by kernel_rfl, fun wv hSw => by (obtain ⟨hS0, hS1, hS2⟩ := hSw); go_simp⟩) (by assumption) ?_
                (try simp only [Act.put, List.setIfInBounds_toArray, List.set_cons_zero, List.set_cons_succ])
                refine wpAnyH_ready (rs := [13]) (by kernel_rfl) (by simp) ?_
                refine AllReadyH.cons rfl (fun K hK => ?_) AllReadyH.nil
                go_simp
                refine (HT1 _ Tk).mono ?_
                rintro e' wn ⟨rfl, hbn⟩
                replace Tk := below_next Tk hbn rfl
                go_wp2_with fail
                refine hK.out _ _ ⟨keepc Tk cc0, keepc Tk cc1, keepc Tk cc2⟩ (fun hHeld2 => ?_)
                clear hK K hHeld1
                (try simp only [Act.put, List.setIfInBounds_toArray, List.set_cons_zero, List.set_cons_succ])
                refine wpAnyH_take (i := 14) (v := .bool false) rfl (by kernel_rfl) (by kernel_rfl) (by kernel_rfl) (fun _ _ _ h => h) (Or.inl ⟨by kernel_rfl, fun _ _ => by go_simp⟩) (by assumption) ?_
                (try simp only [Act.put, List.setIfInBounds_toArray, List.set_cons_zero, List.set_cons_succ])
                refine wpAnyH_take (i := 15) (v := .bool false) rfl (by kernel_rfl) (by kernel_rfl) (by kernel_rfl) (fun _ _ _ h => h) (Or.inl ⟨by kernel_rfl, fun _ _ => by go_simp⟩) (by assumption) ?_
                (try simp only [Act.put, List.setIfInBounds_toArray, List.set_cons_zero, List.set_cons_succ])
                refine wpAnyH_take (i := 16) (v := .bool false) rfl (by kernel_rfl) (by kernel_rfl) (by kernel_rfl) (fun _ _ _ h => h) (Or.inl ⟨by kernel_rfl, fun _ _ => by go_simp⟩) (by assumption) ?_
                (try simp only [Act.put, List.setIfInBounds_toArray, List.set_cons_zero, List.set_cons_succ])
                refine wpAnyH_take (i := 17) (v := .int .i64 (k : Int)) rfl (by kernel_rfl) (by kernel_rfl) (by kernel_rfl) (fun _ _ _ h => h) (Or.inl ⟨by kernel_rfl, fun _ _ => by go_simp⟩) (by assumption) ?_
                (try simp only [Act.put, List.setIfInBounds_toArray, List.set_cons_zero, List.set_cons_succ])
                refine wpAnyH_take (i := 18) (v := .bool false) rfl (by kernel_rfl) (by kernel_rfl) (by kernel_rfl) (fun _ _ _ h => h) (Or.inl ⟨by kernel_rfl, fun _ _ => by go_simp⟩) (by assumption) ?_
                (try simp only [Act.put, List.setIfInBounds_toArray, List.set_cons_zero, List.set_cons_succ])
                refine wpAnyH_take (i := 19) (v := .bool false) rfl (by kernel_rfl) (by kernel_rfl) (by kernel_rfl) (fun _ _ _ h => h) (Or.inl ⟨by kernel_rfl, fun _ _ => by go_simp⟩) (by assumption) ?_
                (try simp only [Act.put, List.setIfInBounds_toArray, List.set_cons_zero, List.set_cons_succ])
                refine wpAnyH_take (i := 20) (v := undef) rfl (by kernel_rfl) (by kernel_rfl) (by kernel_rfl) (fun _ _ _ h => h) (Or.inr ⟨by kernel_rfl, rfl⟩) (by assumption) ?_
                (try simp only [Act.put, List.setIfInBounds_toArray, List.set_cons_zero, List.set_cons_succ])
                refine wpAnyH_take (i := 21) (v := undef) rfl (by kernel_rfl) (by kernel_rfl) (by kernel_rfl) (fun _ _ _ h => h) (Or.inr ⟨by kernel_rfl, rfl⟩) (by assumption) ?_
                (try simp only [Act.put, List.setIfInBounds_toArray, List.set_cons_zero, List.set_cons_succ])
                refine wpAnyH_take (i := 22) (v := undef) rfl (by kernel_rfl) (by kernel_rfl) (by kernel_rfl) (fun _ _ _ h => h) (Or.inr ⟨by kernel_rfl, rfl⟩) (by assumption) ?_
                (try simp only [Act.put, List.setIfInBounds_toArray, List.set_cons_zero, List.set_cons_succ])
                refine wpAnyH_take (i := 23) (v := undef) rfl (by kernel_rfl) (by kernel_rfl) (by kernel_rfl) (fun _ _ _ h => h) (Or.inr ⟨by kernel_rfl, rfl⟩) (by assumption) ?_
                (try simp only [Act.put, List.setIfInBounds_toArray, List.set_cons_zero, List.set_cons_succ])
                refine wpAnyH_take (i := 24) (v := undef) rfl (by kernel_rfl) (by kernel_rfl) (by kernel_rfl) (fun _ _ _ h => h) (Or.inr ⟨by kernel_rfl, rfl⟩) (by assumption) ?_
                (try simp only [Act.put, List.setIfInBounds_toArray, List.set_cons_zero, List.set_cons_succ])
                refine wpAnyH_take (i := 25) (v := undef) rfl (by kernel_rfl) (by kernel_rfl) (by kernel_rfl) (fun _ _ _ h => h) (Or.inr ⟨by kernel_rfl, rfl⟩) (by assumption) ?_
                (try simp only [Act.put, List.setIfInBounds_toArray, List.set_cons_zero, List.set_cons_succ])
                refine wpAnyH_take (i := 26) (v := undef) rfl (by kernel_rfl) (by kernel_rfl) (by kernel_rfl) (fun _ _ _ h => h) (Or.inr ⟨by kernel_rfl, rfl⟩) (by assumption) ?_
                (try simp only [Act.put, List.setIfInBounds_toArray, List.set_cons_zero, List.set_cons_succ])
                refine wpAnyH_take (i := 27) (v := undef) rfl (by kernel_rfl) (by kernel_rfl) (by kernel_rfl) (fun _ _ _ h => h) (Or.inr ⟨by kernel_rfl, rfl⟩) (by assumption) ?_
                (try simp only [Act.put, List.setIfInBounds_toArray, List.set_cons_zero, List.set_cons_succ])
                refine wpAnyH_take (i := 28) (v := undef) rfl (by kernel_rfl) (by kernel_rfl) (by kernel_rfl) (fun _ _ _ h => h) (Or.inr ⟨by kernel_rfl, rfl⟩) (by assumption) ?_
                (try simp only [Act.put, List.setIfInBounds_toArray, List.set_cons_zero, List.set_cons_succ])
                refine wpAnyH_take (i := 29) (v := undef) rfl (by kernel_rfl) (by kernel_rfl) (by kernel_rfl) (fun _ _ _ h => h) (Or.inr ⟨by kernel_rfl, rfl⟩) (by assumption) ?_
                (try simp only [Act.put, List.setIfInBounds_toArray, List.set_cons_zero, List.set_cons_succ])
                refine wpAnyH_take (i := 30) (v := undef) rfl (by kernel_rfl) (by kernel_rfl) (by kernel_rfl) (fun _ _ _ h => h) (Or.inr ⟨by kernel_rfl, rfl⟩) (by assumption) ?_
                (try simp only [Act.put, List.setIfInBounds_toArray, List.set_cons_zero, List.set_cons_succ])
                refine wpAnyH_take (i := 31) (v := undef) rfl (by kernel_rfl) (by kernel_rfl) (by kernel_rfl) (fun _ _ _ h => h) (Or.inr ⟨by kernel_rfl, rfl⟩) (by assumption) ?_
                (try simp only [Act.put, List.setIfInBounds_toArray, List.set_cons_zero, List.set_cons_succ])
                refine wpAnyH_take (i := 32) (v := undef) rfl (by kernel_rfl) (by kernel_rfl) (by kernel_rfl) (fun _ _ _ h => h) (Or.inr ⟨by kernel_rfl, rfl⟩) (by assumption) ?_
                (try simp only [Act.put, List.setIfInBounds_toArray, List.set_cons_zero, List.set_cons_succ])
                refine wpAnyH_take (i := 33) (v := .bool false) rfl (by kernel_rfl) (by kernel_rfl) (by kernel_rfl) (fun _ _ _ h => h) (Or.inl ⟨by kernel_rfl, fun _ _ => by go_simp⟩) (by assumption) ?_
                (try simp only [Act.put, List.getElem_toArray, List.getElem_cons_zero, List.getElem_cons_succ, List.setIfInBounds_toArray, List.set_cons_zero, List.set_cons_succ])
                refine wpAnyH_take (i := 34) (v := .bool false) rfl (by kernel_rfl) (by kernel_rfl) (by kernel_rfl) (fun _ _ _ h => h) (Or.inl ⟨by kernel_rfl, fun _ _ => by go_simp⟩) (by assumption) ?_
                (try simp only [Act.put, List.getElem_toArray, List.getElem_cons_zero, List.getElem_cons_succ, List.setIfInBounds_toArray, List.set_cons_zero, List.set_cons_succ])
                refine wpAnyH_done (by kernel_rfl) ?_ _
                all_goals
                  go_wp2_with fail
                  go_meet
                  exact ⟨by rw [HQ3.out], by first | exact Tk | exact Below.drew Tk⟩
              · obtain ⟨b', o', vs', p, hA', -, hc', hr', -, hxp⟩ := h.at (k := k - 1) (by omega)
                have hA2 := hA'
                simp only [Option.some.injEq, Addr.mk.injEq, and_true] at hA2
                obtain ⟨rfl, rfl⟩ := hA2
                obtain ⟨Bp, mp, dp, rfl, -, hIp, hops'⟩ := rdEntry hr'
                have hpm : p ∈ xs.take k := by
                  have : (xs.take k)[k - 1]? = some p := by rw [List.getElem?_take, if_pos (by omega)]; exact hxp
                  exact List.mem_of_getElem? this
                have hsp := HST.out p hpm
                have HLB : Hid (befB p.2 e.2 = q) := by
                  show _ = _
                  rw [← HQ.out]
                  unfold lastB
                  rw [← HP.out, List.getLast?_take, if_neg hk00, hxp]
                  rfl
                have hral' := mkAlgebra (cOps := dp) hIp hops'
                have d1 : wr.cell? ⟨b, o + (k - 1) * 3 + 1, none⟩ = some (.int .i64 p.2.1) := keepc hTw (hc' 1 _ rfl)
                have d2 : wr.cell? ⟨b, o + (k - 1) * 3 + 2, none⟩ = some (.slice Bp mp dp) := keepc hTw (hc' 2 _ rfl)
                have HC1 : ∀ wz, Below wr.heap.size wr wz → Calls Try.prog 94 #[.agg #[.int .i64 p.2.1, .slice Bp mp dp], .agg #[.int .i64 e.2.1, .slice Bm m d]] wz (Bl wz (.bool q)) := fun wz hz => by
                  have T := below_next hTw hz rfl
                  have := l31Before_any [.int .i64 p.2.1, .slice Bp mp dp] [.int .i64 e.2.1, .slice Bm m d] p.2 e.2 wz (shAlgebra.stab hral' T.block) (shAlgebra.stab hral T.block) hsp hsm
                  rw [HLB.out] at this
                  exact this
                clear hA' hc' hr' hxp hpm hops' hops hIp
                have hw1 : IntKind.i64.wrap ((k : Int) - 1) = (k : Int) - 1 := IntWalk.i64_in _ ⟨by omega, by omega⟩
                have hw3 : (0 : Int) ≤ (k : Int) - 1 := by omega
                have hw4 : (k : Int) - 1 < (xs.length : Int) := by omega
                have hkz2 : decide (0 < k) = true := decide_eq_true (by omega)
                have hw5 : (1 : Int) ≤ (k : Int) := by omega
                have hw6 : (k : Int) ≤ (xs.length : Int) := by omega
                have hw7 : 1 ≤ k := by omega
                have hw8 : 0 < k := by omega
                clear hk00
                refine wp_region_held_drew (S := fun w' => w'.cell? ⟨b, o + k * 3, none⟩ = some (.string e.1) ∧ w'.cell? ⟨b, o + k * 3 + 1, none⟩ = some (.int .i64 e.2.1) ∧ w'.cell? ⟨b, o + k * 3 + 2, none⟩ = some (.slice Bm m d) ∧ w'.cell? ⟨b, o + (k - 1) * 3 + 1, none⟩ = some (.int .i64 p.2.1) ∧ w'.cell? ⟨b, o + (k - 1) * 3 + 2, none⟩ = some (.slice Bp mp dp)) (by kernel_rfl) ⟨cc0, cc1, cc2, d1, d2⟩ (fun hHeld0 => ?_)
                refine wpAnyH_take (i := 0) (v := .slice (some ⟨b, o, none⟩) xs.length c) rfl (by kernel_rfl) (by kernel_rfl) (by kernel_rfl) (fun _ _ _ h => h) (Or.inl ⟨by kernel_rfl, fun _ _ => by go_simp⟩) (by assumption) ?_
                (try simp only [Act.put, List.setIfInBounds_toArray, List.set_cons_zero, List.set_cons_succ])
                refine wpAnyH_take (i := 1) (v := .int .i64 (k : Int)) rfl (by kernel_rfl) (by kernel_rfl) (by kernel_rfl) (fun _ _ _ h => h) (Or.inl ⟨by kernel_rfl, fun _ _ => by go_simp⟩) (by assumption) ?_
                (try simp only [Act.put, List.setIfInBounds_toArray, List.set_cons_zero, List.set_cons_succ])
                refine wpAnyH_take (i := 2) (v := .pointer (some ⟨b, o + k * 3, none⟩)) rfl (by kernel_rfl) (by kernel_rfl) (by kernel_rfl) (fun _ _ _ h => h) (Or.inl ⟨by kernel_rfl, fun _ _ => by go_simp⟩) (by assumption) ?_
                (try simp only [Act.put, List.setIfInBounds_toArray, List.set_cons_zero, List.set_cons_succ])
                refine wpAnyH_take (i := 3) (v := .pointer (some ⟨b, o + k * 3, none⟩)) rfl (by kernel_rfl) (by kernel_rfl) (by kernel_rfl) (fun _ _ _ h => h) (Or.inl ⟨by kernel_rfl, fun _ _ => by go_simp⟩) (by assumption) ?_
                (try simp only [Act.put, List.setIfInBounds_toArray, List.set_cons_zero, List.set_cons_succ])
                refine wpAnyH_take (i := 4) (v := .string e.1) rfl (by kernel_rfl) (by kernel_rfl) (by kernel_rfl) (fun _ _ _ h => h) (Or.inl ⟨by kernel_rfl, fun wv hSw => by (obtain ⟨hS0, hS1, hS2, hS3, hS4⟩ := hSw); go_simp⟩) (by assumption) ?_
                (try simp only [Act.put, List.setIfInBounds_toArray, List.set_cons_zero, List.set_cons_succ])
                refine wpAnyH_ready (rs := [5]) (by kernel_rfl) (by simp) ?_
                refine AllReadyH.cons rfl (fun K hK => ?_) AllReadyH.nil
                go_simp
                refine (l31Name_any _ _ hsz).mono ?_
                rintro e' wn ⟨rfl, rfl⟩
                rw [HR1.out]
                replace Tk := Below.drew Tk
                go_wp2_with fail
                refine hK.out _ _ ⟨keepc Tk cc0, keepc Tk cc1, keepc Tk cc2, keepc Tk d1, keepc Tk d2⟩ (fun hHeld1 => ?_)
                clear hK K hHeld0
                (try simp only [Act.put, List.setIfInBounds_toArray, List.set_cons_zero, List.set_cons_succ])
                refine wpAnyH_take (i := 6) (v := .bool false) rfl (by kernel_rfl) (by kernel_rfl) (by kernel_rfl) (fun _ _ _ h => h) (Or.inl ⟨by kernel_rfl, fun _ _ => by go_simp⟩) (by assumption) ?_
                (try simp only [Act.put, List.setIfInBounds_toArray, List.set_cons_zero, List.set_cons_succ])
                refine wpAnyH_take (i := 7) (v := .bool false) rfl (by kernel_rfl) (by kernel_rfl) (by kernel_rfl) (fun _ _ _ h => h) (Or.inl ⟨by kernel_rfl, fun _ _ => by go_simp⟩) (by assumption) ?_
                (try simp only [Act.put, List.setIfInBounds_toArray, List.set_cons_zero, List.set_cons_succ])
                refine wpAnyH_take (i := 8) (v := .slice (some ⟨b, o, none⟩) xs.length c) rfl (by kernel_rfl) (by kernel_rfl) (by kernel_rfl) (fun _ _ _ h => h) (Or.inl ⟨by kernel_rfl, fun _ _ => by go_simp⟩) (by assumption) ?_
                (try simp only [Act.put, List.setIfInBounds_toArray, List.set_cons_zero, List.set_cons_succ])
                refine wpAnyH_take (i := 9) (v := .int .i64 (k : Int)) rfl (by kernel_rfl) (by kernel_rfl) (by kernel_rfl) (fun _ _ _ h => h) (Or.inl ⟨by kernel_rfl, fun _ _ => by go_simp⟩) (by assumption) ?_
                (try simp only [Act.put, List.setIfInBounds_toArray, List.set_cons_zero, List.set_cons_succ])
                refine wpAnyH_take (i := 10) (v := .pointer (some ⟨b, o + k * 3, none⟩)) rfl (by kernel_rfl) (by kernel_rfl) (by kernel_rfl) (fun _ _ _ h => h) (Or.inl ⟨by kernel_rfl, fun _ _ => by go_simp⟩) (by assumption) ?_
                (try simp only [Act.put, List.setIfInBounds_toArray, List.set_cons_zero, List.set_cons_succ])
                refine wpAnyH_take (i := 11) (v := .pointer (some ⟨b, o + k * 3 + 1, none⟩)) rfl (by kernel_rfl) (by kernel_rfl) (by kernel_rfl) (fun _ _ _ h => h) (Or.inl ⟨by kernel_rfl, fun _ _ => by go_simp⟩) (by assumption) ?_
                (try simp only [Act.put, List.setIfInBounds_toArray, List.set_cons_zero, List.set_cons_succ])
                refine wpAnyH_take (i := 12) (v := .agg #[.int .i64 e.2.1, .slice Bm m d]) rfl (by kernel_rfl) (by kernel_rfl) (by kernel_rfl) (fun _ _ _ h => h) (Or.inl ⟨by kernel_rfl, fun wv hSw => by (obtain ⟨hS0, hS1, hS2, hS3, hS4⟩ := hSw); go_simp⟩) (by assumption) ?_
                (try simp only [Act.put, List.setIfInBounds_toArray, List.set_cons_zero, List.set_cons_succ])
                refine wpAnyH_ready (rs := [13]) (by kernel_rfl) (by simp) ?_
                refine AllReadyH.cons rfl (fun K hK => ?_) AllReadyH.nil
                go_simp
                refine (HT1 _ Tk).mono ?_
                rintro e' wn ⟨rfl, hbn⟩
                replace Tk := below_next Tk hbn rfl
                go_wp2_with fail
                refine hK.out _ _ ⟨keepc Tk cc0, keepc Tk cc1, keepc Tk cc2, keepc Tk d1, keepc Tk d2⟩ (fun hHeld2 => ?_)
                clear hK K hHeld1
                (try simp only [Act.put, List.setIfInBounds_toArray, List.set_cons_zero, List.set_cons_succ])
                refine wpAnyH_take (i := 14) (v := .bool false) rfl (by kernel_rfl) (by kernel_rfl) (by kernel_rfl) (fun _ _ _ h => h) (Or.inl ⟨by kernel_rfl, fun _ _ => by go_simp⟩) (by assumption) ?_
                (try simp only [Act.put, List.setIfInBounds_toArray, List.set_cons_zero, List.set_cons_succ])
                refine wpAnyH_take (i := 15) (v := .bool false) rfl (by kernel_rfl) (by kernel_rfl) (by kernel_rfl) (fun _ _ _ h => h) (Or.inl ⟨by kernel_rfl, fun _ _ => by go_simp⟩) (by assumption) ?_
                (try simp only [Act.put, List.setIfInBounds_toArray, List.set_cons_zero, List.set_cons_succ])
                refine wpAnyH_take (i := 16) (v := .bool false) rfl (by kernel_rfl) (by kernel_rfl) (by kernel_rfl) (fun _ _ _ h => h) (Or.inl ⟨by kernel_rfl, fun _ _ => by go_simp⟩) (by assumption) ?_
                (try simp only [Act.put, List.setIfInBounds_toArray, List.set_cons_zero, List.set_cons_succ])
                refine wpAnyH_take (i := 17) (v := .int .i64 (k : Int)) rfl (by kernel_rfl) (by kernel_rfl) (by kernel_rfl) (fun _ _ _ h => h) (Or.inl ⟨by kernel_rfl, fun _ _ => by go_simp⟩) (by assumption) ?_
                (try simp only [Act.put, List.setIfInBounds_toArray, List.set_cons_zero, List.set_cons_succ])
                refine wpAnyH_take (i := 18) (v := .bool true) rfl (by kernel_rfl) (by kernel_rfl) (by kernel_rfl) (fun _ _ _ h => h) (Or.inl ⟨by kernel_rfl, fun _ _ => by go_simp⟩) (by assumption) ?_
                (try simp only [Act.put, List.setIfInBounds_toArray, List.set_cons_zero, List.set_cons_succ])
                refine wpAnyH_take (i := 19) (v := .bool true) rfl (by kernel_rfl) (by kernel_rfl) (by kernel_rfl) (fun _ _ _ h => h) (Or.inl ⟨by kernel_rfl, fun _ _ => by go_simp⟩) (by assumption) ?_
                (try simp only [Act.put, List.setIfInBounds_toArray, List.set_cons_zero, List.set_cons_succ])
                refine wpAnyH_take (i := 20) (v := .slice (some ⟨b, o, none⟩) xs.length c) rfl (by kernel_rfl) (by kernel_rfl) (by kernel_rfl) (fun _ _ _ h => h) (Or.inl ⟨by kernel_rfl, fun _ _ => by go_simp⟩) (by assumption) ?_
                (try simp only [Act.put, List.setIfInBounds_toArray, List.set_cons_zero, List.set_cons_succ])
                refine wpAnyH_take (i := 21) (v := .int .i64 (k : Int)) rfl (by kernel_rfl) (by kernel_rfl) (by kernel_rfl) (fun _ _ _ h => h) (Or.inl ⟨by kernel_rfl, fun _ _ => by go_simp⟩) (by assumption) ?_
                (try simp only [Act.put, List.setIfInBounds_toArray, List.set_cons_zero, List.set_cons_succ])
                refine wpAnyH_take (i := 22) (v := .int .i64 ((k : Int) - 1)) rfl (by kernel_rfl) (by kernel_rfl) (by kernel_rfl) (fun _ _ _ h => h) (Or.inl ⟨by kernel_rfl, fun _ _ => by go_simp⟩) (by assumption) ?_
                (try simp only [Act.put, List.setIfInBounds_toArray, List.set_cons_zero, List.set_cons_succ])
                refine wpAnyH_take (i := 23) (v := .pointer (some ⟨b, o + (k - 1) * 3, none⟩)) rfl (by kernel_rfl) (by kernel_rfl) (by kernel_rfl) (fun _ _ _ h => h) (Or.inl ⟨by kernel_rfl, fun _ _ => by go_simp⟩) (by assumption) ?_
                (try simp only [Act.put, List.setIfInBounds_toArray, List.set_cons_zero, List.set_cons_succ])
                refine wpAnyH_take (i := 24) (v := .pointer (some ⟨b, o + (k - 1) * 3 + 1, none⟩)) rfl (by kernel_rfl) (by kernel_rfl) (by kernel_rfl) (fun _ _ _ h => h) (Or.inl ⟨by kernel_rfl, fun _ _ => by go_simp⟩) (by assumption) ?_
                (try simp only [Act.put, List.setIfInBounds_toArray, List.set_cons_zero, List.set_cons_succ])
                refine wpAnyH_take (i := 25) (v := .agg #[.int .i64 p.2.1, .slice Bp mp dp]) rfl (by kernel_rfl) (by kernel_rfl) (by kernel_rfl) (fun _ _ _ h => h) (Or.inl ⟨by kernel_rfl, fun wv hSw => by (obtain ⟨hS0, hS1, hS2, hS3, hS4⟩ := hSw); go_simp⟩) (by assumption) ?_
                (try simp only [Act.put, List.setIfInBounds_toArray, List.set_cons_zero, List.set_cons_succ])
                refine wpAnyH_take (i := 26) (v := .slice (some ⟨b, o, none⟩) xs.length c) rfl (by kernel_rfl) (by kernel_rfl) (by kernel_rfl) (fun _ _ _ h => h) (Or.inl ⟨by kernel_rfl, fun _ _ => by go_simp⟩) (by assumption) ?_
                (try simp only [Act.put, List.setIfInBounds_toArray, List.set_cons_zero, List.set_cons_succ])
                refine wpAnyH_take (i := 27) (v := .int .i64 (k : Int)) rfl (by kernel_rfl) (by kernel_rfl) (by kernel_rfl) (fun _ _ _ h => h) (Or.inl ⟨by kernel_rfl, fun _ _ => by go_simp⟩) (by assumption) ?_
                (try simp only [Act.put, List.setIfInBounds_toArray, List.set_cons_zero, List.set_cons_succ])
                refine wpAnyH_take (i := 28) (v := .pointer (some ⟨b, o + k * 3, none⟩)) rfl (by kernel_rfl) (by kernel_rfl) (by kernel_rfl) (fun _ _ _ h => h) (Or.inl ⟨by kernel_rfl, fun _ _ => by go_simp⟩) (by assumption) ?_
                (try simp only [Act.put, List.setIfInBounds_toArray, List.set_cons_zero, List.set_cons_succ])
                refine wpAnyH_take (i := 29) (v := .pointer (some ⟨b, o + k * 3 + 1, none⟩)) rfl (by kernel_rfl) (by kernel_rfl) (by kernel_rfl) (fun _ _ _ h => h) (Or.inl ⟨by kernel_rfl, fun _ _ => by go_simp⟩) (by assumption) ?_
                (try simp only [Act.put, List.setIfInBounds_toArray, List.set_cons_zero, List.set_cons_succ])
                refine wpAnyH_take (i := 30) (v := .agg #[.int .i64 e.2.1, .slice Bm m d]) rfl (by kernel_rfl) (by kernel_rfl) (by kernel_rfl) (fun _ _ _ h => h) (Or.inl ⟨by kernel_rfl, fun wv hSw => by (obtain ⟨hS0, hS1, hS2, hS3, hS4⟩ := hSw); go_simp⟩) (by assumption) ?_
                (try simp only [Act.put, List.setIfInBounds_toArray, List.set_cons_zero, List.set_cons_succ])
                refine wpAnyH_ready (rs := [31]) (by kernel_rfl) (by simp) ?_
                refine AllReadyH.cons rfl (fun K hK => ?_) AllReadyH.nil
                go_simp
                refine (HC1 _ Tk).mono ?_
                rintro e' wn ⟨rfl, hbn⟩
                replace Tk := below_next Tk hbn rfl
                go_wp2_with fail
                refine hK.out _ _ ⟨keepc Tk cc0, keepc Tk cc1, keepc Tk cc2, keepc Tk d1, keepc Tk d2⟩ (fun hHeld3 => ?_)
                clear hK K hHeld2
                (try simp only [Act.put, List.setIfInBounds_toArray, List.set_cons_zero, List.set_cons_succ])
                refine wpAnyH_take (i := 32) (v := .bool (!q)) rfl (by kernel_rfl) (by kernel_rfl) (by kernel_rfl) (fun _ _ _ h => h) (Or.inl ⟨by kernel_rfl, fun _ _ => by go_simp⟩) (by assumption) ?_
                (try simp only [Act.put, List.setIfInBounds_toArray, List.set_cons_zero, List.set_cons_succ])
                refine wpAnyH_take (i := 33) (v := .bool (!q)) rfl (by kernel_rfl) (by kernel_rfl) (by kernel_rfl) (fun _ _ _ h => h) (Or.inl ⟨by kernel_rfl, fun _ _ => by go_simp⟩) (by assumption) ?_
                (try simp only [Act.put, List.getElem_toArray, List.getElem_cons_zero, List.getElem_cons_succ, List.setIfInBounds_toArray, List.set_cons_zero, List.set_cons_succ])
                refine wpAnyH_take (i := 34) (v := .bool (!q)) rfl (by kernel_rfl) (by kernel_rfl) (by kernel_rfl) (fun _ _ _ h => h) (Or.inl ⟨by kernel_rfl, fun _ _ => by go_simp⟩) (by assumption) ?_
                (try simp only [Act.put, List.getElem_toArray, List.getElem_cons_zero, List.getElem_cons_succ, List.setIfInBounds_toArray, List.set_cons_zero, List.set_cons_succ])
                refine wpAnyH_done (by kernel_rfl) ?_ _
                all_goals
                  go_wp2_with fail
                  go_meet
                  exact ⟨rfl, by first | exact Tk | exact Below.drew Tk⟩
          case rest =>
            obtain ⟨rfl, hTc⟩ := hcut
            obtain ⟨w5, HWC⟩ : ∃ wq : World, wq = wc := ⟨_, rfl⟩
            subst HWC
            have T5 := below_next hTw hTc rfl
            rcases q with _ | _
            · go_wp2_with fail
              go_ret
              exact ⟨ret_bool (HH.out.stop HD.out (by rw [HOK2.out, Bool.and_false, Bool.and_false])), T5⟩
            · have hr3 : r3 = true := by
                have := HQ.out
                rcases r3 with _ | _
                · exact absurd this (by simp)
                · rfl
              subst hr3
              have hsm := small_iff.1 HR3.out
              have hlb : lastB pre e = true := HQ.out
              have HLB := Lib.hid hlb
              have HSN : Hid (∀ e' ∈ xs.take (k + 1), SmallP e'.2) := by
                show ∀ e' ∈ xs.take (k + 1), SmallP e'.2
                intro e' he'
                rw [take_snoc HX.out, List.mem_append] at he'
                rcases he' with h1 | h1
                · exact HST.out e' h1
                · rw [List.mem_singleton] at h1
                  subst h1
                  exact hsm
              have HRX : Hid (InR (canA e.2).1) := small_R (canA_small hsm)
              have HSX : Hid (SmallP (canA e.2)) := canA_small hsm
              have hkk : (k : Int) ≤ 9223372036854775807 := by omega
              clear hlb HT1 Tk
              go_wp2_with fail
              go_loopw [4] (fun j wj => ∃ jn : Nat, jn ≤ k ∧ j = .int .i64 jn ∧ hasS e.1 ((xs.take jn).map (·.1)) = false ∧ Below w.heap.size w wj) (fun j _ => k - (intOf j).toNat)
              case atStart => exact ⟨0, Nat.zero_le _, rfl, rfl, T5⟩
              case round =>
                obtain ⟨j, hj, rfl, hno, hTj⟩ := hrel
                have HNO := Lib.hid hno
                clear hno
                by_cases hjk : j < k
                · have hj0 : (0 : Int) ≤ (j : Int) := by omega
                  have hj1 : (j : Int) < (k : Int) := by omega
                  have hj2 : (j : Int) < (xs.length : Int) := by omega
                  obtain ⟨b', o', vs', f, hA', -, hc', hr', -, hxf⟩ := h.at (k := j) (by omega)
                  have hA2 := hA'
                  simp only [Option.some.injEq, Addr.mk.injEq, and_true] at hA2
                  obtain ⟨rfl, rfl⟩ := hA2
                  obtain ⟨Bf, mf, df, rfl, -, -, -⟩ := rdEntry hr'
                  obtain ⟨b2, o2, vs2, e2, hA3, -, hc2, hr2, -, hxe2⟩ := h.at hlt
                  simp only [Option.some.injEq, Addr.mk.injEq, and_true] at hA3
                  obtain ⟨rfl, rfl⟩ := hA3
                  obtain rfl : e2 = e := by
                    have := HX.out
                    rw [hxe2] at this
                    exact Option.some.inj this
                  obtain ⟨B3, m3, d3, rfl, -, -, -⟩ := rdEntry hr2
                  have d0 : wr.cell? ⟨b, o + j * 3, none⟩ = some (.string f.1) := keepc hTj (hc' 0 _ rfl)
                  have d1 : wr.cell? ⟨b, o + k * 3, none⟩ = some (.string e2.1) := keepc hTj (hc2 0 _ rfl)
                  have HXF := Lib.hid hxf
                  clear hc' hc2 hA' hxf hxe2
                  by_cases he : f.1 = e2.1
                  · have hd1 : (f.1.toList == e2.1.toList) = true := eqq_str (eqC_iff.2 he)
                    have HE := Lib.hid he
                    clear he
                    go_upto_region 11 with fail
                    go_quiet (fail)
                    go_wp2_with fail
                    go_ret
                    exact ⟨ret_bool (HH.out.stop HD.out (by rw [HOK2.out, hasS_hit hjk HXF.out HE.out]; rfl)), below_drewN hTj _⟩
                  · have hd1 : (f.1.toList == e2.1.toList) = false := eqq_str (eqC_no.2 he)
                    have HE := Lib.hid he
                    clear he
                    go_upto_region 11 with fail
                    go_quiet (fail)
                    go_wp2_with fail
                    go_roundw
                    case rel => exact ⟨j + 1, by omega, by go_num, hasS_step HNO.out HXF.out HE.out, below_drewN hTj _⟩
                    case measure => simp [intOf]; omega
                · obtain rfl : j = k := by omega
                  have hjk' : ¬ (j : Int) < (j : Int) := by omega
                  obtain ⟨b2, o2, vs2, e2, hA3, -, hc2, hr2, -, hxe2⟩ := h.at hlt
                  simp only [Option.some.injEq, Addr.mk.injEq, and_true] at hA3
                  obtain ⟨rfl, rfl⟩ := hA3
                  obtain rfl : e2 = e := by
                    have := HX.out
                    rw [hxe2] at this
                    exact Option.some.inj this
                  obtain ⟨B3, m3, d3, rfl, hsz3, hIn3, hops3⟩ := rdEntry hr2
                  have d1 : wr.cell? ⟨b, o + j * 3 + 1, none⟩ = some (.int .i64 e2.2.1) := keepc hTj (hc2 1 _ rfl)
                  have d2 : wr.cell? ⟨b, o + j * 3 + 2, none⟩ = some (.slice B3 m3 d3) := keepc hTj (hc2 2 _ rfl)
                  have hral3 := mkAlgebra (cOps := d3) hIn3 hops3
                  have HC1 : ∀ wz, Below wr.heap.size wr wz → Calls Try.prog 53 #[.agg #[.int .i64 e2.2.1, .slice B3 m3 d3]] wz (AlgE wz (canA e2.2)) := fun wz hz =>
                    l31Form_any [.int .i64 e2.2.1, .slice B3 m3 d3] e2.2 wz (shAlgebra.stab hral3 (below_next hTj hz rfl).block) hsm
                  obtain ⟨sv, HSV⟩ : ∃ b, Hid (eqC (canA e2.2) e2.2 = b) := ⟨_, rfl⟩
                  have HC2 : ∀ wz v css bls, Below wr.heap.size wr wz → PO 0 wz v (canA e2.2).2 css bls → Calls Try.prog 60 #[.agg #[.int .i64 (canA e2.2).1, v], .agg #[.int .i64 e2.2.1, .slice B3 m3 d3]] wz (Bl wz (.bool sv)) := fun wz v css bls hz hp => by
                    have := l31Same_any [.int .i64 (canA e2.2).1, v] [.int .i64 e2.2.1, .slice B3 m3 d3] (canA e2.2) e2.2 wz (hp.alg HRX.out) (shAlgebra.stab hral3 (below_next hTj hz rfl).block) HSX.out hsm
                    rw [show eqC (canA e2.2) e2.2 = sv from HSV.out] at this
                    exact this
                  have Tk : Below wr.heap.size wr wr := Below.refl _ _
                  clear hc2 hr2 hxe2 hops hops3 cc0 cc1 cc2
                  go_upto_region 13 with fail
                  go_cut [77] (fun v77 wx => v77 = .bool (!sv) ∧ Below wr.heap.size wr wx)
                  case first =>
                    go_region_held3 (fun w' => w'.cell? ⟨b, o + j * 3 + 1, none⟩ = some (.int .i64 e2.2.1) ∧ w'.cell? ⟨b, o + j * 3 + 2, none⟩ = some (.slice B3 m3 d3)) (first | go_keep | exact ⟨keepc Tk d1, keepc Tk d2⟩) (first
                      | (go_at_call 53; (with_reducible refine (HC1 _ ?_).mono ?_); (first | exact Tk | exact Below.drew Tk); rintro e' wn ⟨vv, css, bls, rfl, hPn, hbn⟩; replace Tk := below_next (by first | exact Tk | exact Below.drew Tk) hbn rfl)
                      | (go_at_call 60; refine (HC2 _ _ _ _ (by first | exact Tk | exact Below.drew Tk) (by first | exact hPn.mono (Nat.zero_le _) | exact (hPn.mono (Nat.zero_le _)).next (Below.drew (Below.refl _ _)))).mono ?_; rintro e' wm ⟨rfl, hbm⟩; replace Tk := below_next (by first | exact Tk | exact Below.drew Tk) hbm rfl))
                    all_goals
                      go_wp2_with fail
                      go_meet
                      exact ⟨rfl, by first | exact Tk | exact Below.drew Tk⟩
                  case rest =>
                    obtain ⟨rfl, hTc6⟩ := hcut
                    obtain ⟨w6, HWC⟩ : ∃ wq : World, wq = wc := ⟨_, rfl⟩
                    subst HWC
                    have T6 := below_next hTj hTc6 rfl
                    clear d1 d2 HC1 HC2 Tk
                    rcases sv with _ | _
                    · go_wp2_with fail
                      go_ret
                      exact ⟨ret_bool (HH.out.stop HD.out (by rw [HOK2.out, HSV.out, Bool.false_and, Bool.and_false])), T6⟩
                    · go_wp2_with fail
                      go_roundw
                      case rel => exact ⟨j + 1, by omega, by go_num, HH.out.step HD.out HX.out (by rw [HOK2.out, HSV.out, HNO.out]; rfl), HSN.out, T6⟩
                      case measure => simp [intOf]; omega
      · have hlt' : ¬ (k : Int) < (xs.length : Int) := by omega
        have HH := Lib.hid H
        clear H hS
        go_wp2_with fail
        go_ret
        exact ⟨ret_bool (HH.out.done hn hlt), hTw⟩
  · have hn' : (12 : Int) < (xs.length : Int) := by omega
    go_enter Try.func40, Try.ntmps40
    go_wp2_with fail
    go_ret
    exact ⟨ret_bool (catB_big hn), Below.refl _ _⟩
end Go.Proofs.Ytbpdbimdefdefaa
