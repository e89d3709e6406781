/- Parts of the proof: Cat1, NameOf, Cat6, Rm1, Rm2, Rm3, InsP, WithE, Cat7, AddP. -/
import Derived.Test.YtkmgbdljiajlaaaQ3
import Derived.Deep.RegionLaw
import Derived.Test.YtkmgbdljiajlaaaQ2
import Derived.Deep.RegionHeld3
import Derived.Deep.DeepCutAuto
namespace Go.Proofs.Ytkmgbdljiajlaaa
open Go.RowKit

/-! ## Names -/
def lowB (c : UInt8) : Bool := decide (97 ≤ (c.toNat : Int)) && decide ((c.toNat : Int) ≤ 122)
def allLow : List UInt8 → Bool
  | [] => true
  | c :: l => lowB c && allLow l
def nameB (s : ByteArray) : Bool := allLow (bs s) && inB s.size 1 10
def LowAt (s : ByteArray) (k : Nat) : Prop := allLow ((bs s).drop k) = allLow (bs s)
theorem LowAt.step {s : ByteArray} {k : Nat} (h : LowAt s k) (hk : k < s.size) (ho : lowB s[k] = true) : LowAt s (k + 1) := by
  unfold LowAt at *; rw [drop_cons s k hk] at h; rw [← h]; simp [allLow, ho]
theorem LowAt.stop {s : ByteArray} {k : Nat} (h : LowAt s k) (hk : k < s.size) (ho : lowB s[k] = false) : false = nameB s := by
  unfold LowAt at *; rw [drop_cons s k hk] at h; unfold nameB; rw [← h]; simp [allLow, ho]
theorem LowAt.done {s : ByteArray} {k : Nat} (h : LowAt s k) (hk : ¬ k < s.size) : inB s.size 1 10 = nameB s := by
  unfold LowAt at *; rw [drop_end s k hk] at h; unfold nameB; rw [← h]; rfl
theorem name_big {s : ByteArray} (h : 11 ≤ s.size) : inB s.size 1 10 = nameB s := by
  have e : inB s.size 1 10 = false := by unfold inB; simp; omega
  unfold nameB
  rw [e, Bool.and_false]
set_option maxHeartbeats 400000 in
theorem isName_any (s : ByteArray) (w : World) (hs : s.size ≤ maxLen) :
    Calls Try.prog 41 #[.string s] w fun e w' => e = .returned (.bool (nameB s)) ∧ w = w' := by
  unfold maxLen at hs
  go_enter Try.func41, Try.ntmps41
  go_wp2
  go_loop [3] (fun i => ∃ k : Nat, k ≤ s.size ∧ i = .int .i64 k ∧ LowAt s k) (fun i => s.size - (intOf i).toNat)
  case atStart => exact ⟨0, Nat.zero_le _, rfl, rfl⟩
  case round =>
    obtain ⟨k, hk, rfl, H⟩ := hrel
    by_cases hlt : k < s.size
    · by_cases h1 : (s[k].toNat : Int) < 97
      · go_wp2
        go_ret
        exact ⟨ret_bool (H.stop hlt (by unfold lowB; simp; omega)), rfl⟩
      · by_cases h2 : 122 < (s[k].toNat : Int)
        · go_wp2
          go_ret
          exact ⟨ret_bool (H.stop hlt (by unfold lowB; simp; omega)), rfl⟩
        · go_wp2
          go_round
          case rel => exact ⟨k + 1, by omega, by go_num, H.step hlt (by unfold lowB; simp; omega)⟩
          case measure => simp [intOf]; omega
    · obtain rfl : k = s.size := by omega
      by_cases h1 : 1 ≤ (s.size : Int)
      all_goals
        go_wp2
        go_ret
        exact ⟨ret_bool (by rw [← H.done hlt]; unfold inB; simp; omega), rfl⟩
set_option maxHeartbeats 400000 in
theorem l31Name_any (s : ByteArray) (w : World) (hs : s.size ≤ maxLen) :
    Calls Try.prog 47 #[.string s] w fun e w' => e = .returned (.bool (nameB s)) ∧ w = w' := by
  unfold maxLen at hs
  go_enter Try.func47, Try.ntmps47
  go_wp2
  go_loop [3] (fun i => ∃ k : Nat, k ≤ s.size ∧ k ≤ 11 ∧ i = .int .i64 k ∧ LowAt s k) (fun i => s.size - (intOf i).toNat)
  case atStart => exact ⟨0, Nat.zero_le _, by omega, rfl, rfl⟩
  case round =>
    obtain ⟨k, hk, hk2, rfl, H⟩ := hrel
    have hle : (s.size : Int) ≤ 9223372036854775807 := by omega
    by_cases hlt : k < s.size
    · by_cases h11 : k < 11
      · have hb : wrap64 (s[k].toNat : Int) = s[k].toNat := byte64 _
        obtain ⟨r, hr⟩ : ∃ r, lowB s[k] = r := ⟨_, rfl⟩
        have HR : Hid (inB (wrap64 (s[k].toNat : Int)) 97 122 = r) := by show _ = _; rw [hb, ← hr]; rfl
        have HR' := Lib.hid hr
        clear hr hb
        rcases r with _ | _
        · go_wp2_with (go_at_call 89; refine (l1In_any _ _ _ _).mono ?_; rintro e w' ⟨rfl, rfl⟩; rw [HR.out])
          go_ret
          exact ⟨ret_bool (H.stop hlt HR'.out), rfl⟩
        · go_wp2_with (go_at_call 89; refine (l1In_any _ _ _ _).mono ?_; rintro e w' ⟨rfl, rfl⟩; rw [HR.out])
          go_round
          case rel => exact ⟨k + 1, by omega, by omega, by go_num, H.step hlt HR'.out⟩
          case measure => simp [intOf]; omega
      · go_wp2_with (go_at_call 89; refine (l1In_any _ _ _ _).mono ?_; rintro e w' ⟨rfl, rfl⟩)
        go_ret
        exact ⟨ret_bool (name_big (by omega)), rfl⟩
    · obtain rfl : k = s.size := by omega
      go_wp2_with (go_at_call 89; refine (l1In_any _ _ _ _).mono ?_; rintro e w' ⟨rfl, rfl⟩)
      go_ret
      exact ⟨ret_bool (H.done hlt), rfl⟩

/-! ## The order -/
set_option maxHeartbeats 400000 in
theorem l31Compare_any (A B : Option Addr) (n m c d : Nat) (xs ys : List Int) (w : World) (h : RdL RI w A n xs) (h' : RdL RI w B m ys) :
    Calls Try.prog 117 #[.slice A n c, .slice B m d] w (Qt w (.int .i64 (lexL xs ys))) := by
  have hle := h.le
  have hle' := h'.le
  have hx := Lib.hid h.len
  have hy := Lib.hid h'.len
  go_enter Try.func117, Try.ntmps117
  go_wp2
  go_loopw [5] (fun i wr => ∃ k : Nat, k ≤ n ∧ k ≤ m ∧ i = .int .i64 k ∧ At2 lexL xs ys k ∧ Drawn w wr) (fun i _ => n - (intOf i).toNat)
  case atStart => exact ⟨0, Nat.zero_le _, Nat.zero_le _, rfl, rfl, Drawn.zero _⟩
  case round =>
    obtain ⟨k, hk, hk', rfl, H, z, rfl⟩ := hrel
    by_cases hlt : k < n
    · by_cases hlt' : k < m
      · obtain ⟨b, o, v, x, rfl, hc, ⟨rfl, -⟩, hd, -⟩ := h.at hlt
        obtain ⟨b', o', v', y, rfl, hc', ⟨rfl, -⟩, hd', -⟩ := h'.at hlt'
        have H1 := Lib.hid hd
        have H2 := Lib.hid hd'
        clear hd hd'
        by_cases hxy : x < y
        · have HE : Hid ((x == y) = false) := by simp [Hid]; omega
          go_wp2
          go_quiet (fail)
          go_wp2
          go_ret
          exact ⟨ret_int (H.stop H1.out H2.out (by rw [lexL, HE.out, if_neg (by decide), if_pos (by assumption)])), (by first | exact Drawn.zero _ | exact Drawn.at_ _ _ | exact (Drawn.at_ _ _).more _ | exact ((Drawn.at_ _ _).more _).more _)⟩
        · by_cases hyx : y < x
          · have HE : Hid ((x == y) = false) := by simp [Hid]; omega
            go_wp2
            go_quiet (fail)
            go_wp2
            go_quiet (fail)
            go_wp2
            go_ret
            exact ⟨ret_int (H.stop H1.out H2.out (by rw [lexL, HE.out, if_neg (by decide), if_neg (by omega)])), (by first | exact Drawn.zero _ | exact Drawn.at_ _ _ | exact (Drawn.at_ _ _).more _ | exact ((Drawn.at_ _ _).more _).more _)⟩
          · have HE : Hid ((x == y) = true) := by simp [Hid]; omega
            go_wp2
            go_quiet (fail)
            go_wp2
            go_quiet (fail)
            go_wp2
            go_roundw
            case rel => exact ⟨k + 1, by omega, by omega, by go_num, H.step H1.out H2.out (by rw [lexL, HE.out, if_pos rfl]), (by first | exact Drawn.zero _ | exact Drawn.at_ _ _ | exact (Drawn.at_ _ _).more _ | exact ((Drawn.at_ _ _).more _).more _)⟩
            case measure => simp [intOf]; omega
      · go_wp2
        all_goals
          go_ret
          exact ⟨ret_int (H.done rfl rfl (by rw [lexL_ends hx.out hy.out (by omega) hk hk']; first | rw [if_pos (by omega)] | rw [if_neg (by omega), if_pos (by omega)] | rw [if_neg (by omega), if_neg (by omega)])), (by first | exact Drawn.zero _ | exact Drawn.at_ _ _ | exact (Drawn.at_ _ _).more _ | exact ((Drawn.at_ _ _).more _).more _)⟩
    · go_wp2
      all_goals
        go_ret
        exact ⟨ret_int (H.done rfl rfl (by rw [lexL_ends hx.out hy.out (by omega) hk hk']; first | rw [if_pos (by omega)] | rw [if_neg (by omega), if_pos (by omega)] | rw [if_neg (by omega), if_neg (by omega)])), (by first | exact Drawn.zero _ | exact Drawn.at_ _ _ | exact (Drawn.at_ _ _).more _ | exact ((Drawn.at_ _ _).more _).more _)⟩

set_option maxRecDepth 20000 in
set_option maxHeartbeats 4000000 in
theorem typeOf_any (cs : List Value) (x : AlgebraM) (w : World) (h : shAlgebra.rd w cs x) (hn : x.2.length ≤ 1048576) :
    Calls Try.prog 65 #[.agg cs.toArray] w (fun e w' => ∃ A c, e = .returned (.slice A x.2.length c) ∧ RdL RI w' A x.2.length (tyL x.2) ∧ Below w.heap.size w w') := by
  obtain ⟨B, m, d, rfl, qs, qo⟩ := rdAlgebra h
  obtain rfl : x.2.length = m := qo.len
  have HTR := Lib.hid (tyL_R qo)
  have hle := qo.le
  obtain ⟨w0, hw0, T0, hsz0, BP⟩ := boxes1 w #[.int .i64 x.1, .slice B x.2.length d] 27
  have hown0 := lit_below T0
  have T1 := below_next T0 (below_box w0 (.cells #[] 3)) rfl
  obtain ⟨w1, hw1⟩ : ∃ wb, wb = w0.alloc (.cells #[] 3) := ⟨_, rfl⟩
  rw [← hw1] at hown0 T1
  rw [hsz0] at hown0
  have HW : Hid (w1 = (w.alloc (.cells #[.int .i64 x.1, .slice B x.2.length d] 27)).alloc (.cells #[] 3)) := by show _ = _; rw [hw1, hw0]
  clear hw0 hw1 T0 hsz0 BP
  go_enter Try.func65, Try.ntmps65
  go_wp2_with fail
  rw [← HW.out]
  go_loopw [3, 5, 10] (fun v _ i wr => ∃ (k : Nat) (A : Option Addr) (c : Nat), k ≤ x.2.length ∧ i = .int .i64 k ∧ v = .slice A k c ∧ wr.ownsRow w.heap.size 3 1 (.slice A k c) k (ints ((tyL x.2).take k)) ∧ Below w.heap.size w wr) (fun _ _ i _ => x.2.length - (intOf i).toNat)
  case atStart => exact ⟨0, _, _, Nat.zero_le _, rfl, rfl, hown0, T1⟩
  case round =>
    clear hown0 T1
    obtain ⟨k, A, c, hk, rfl, rfl, hown, hTw⟩ := hrel
    have q' := qo.next hTw
    by_cases hlt : k < x.2.length
    · obtain ⟨b, o, vs, u, rfl, -, hc, hr, -, hxu⟩ := q'.at hlt
      obtain ⟨B', m', d', rfl, qa, qt⟩ := rdOp hr
      have cc0 : wr.cell? ⟨b, o + k * 2, none⟩ = some (.int .i64 u.1) := hc 0 _ rfl
      have cc1 : wr.cell? ⟨b, o + k * 2 + 1, none⟩ = some (.slice B' m' d') := hc 1 _ rfl
      obtain ⟨wb, HWB⟩ : ∃ wb, Hid (wb = wr.alloc (.cells #[.int .i64 u.1, .slice B' m' d'] 92)) := ⟨_, rfl⟩
      have hb1 : Below wr.heap.size wr wb := by rw [HWB.out]; exact below_box _ _
      have BN : Blk wb wr.heap.size 92 #[.int .i64 u.1, .slice B' m' d'] := by rw [HWB.out]; exact Blk.new _ _ _
      have cN0 := BN.cell 0
      simp at cN0
      have hown1 := own_next hown hb1
      have hTw1 := below_next hTw hb1 rfl
      have hbase := hTw1.size
      have HS := Lib.hid (tyL_snoc hxu)
      clear hc hxu hb1
      have hk0 : (0 : Int) ≤ (k : Int) := by omega
      have hk1 : (k : Int) < (x.2.length : Int) := by omega
      go_upto_region 5 with fail
      rw [← HWB.out]
      go_wp2_with (at_builtin; refine app1 wb rfl _ _ 55 3 rfl (.int .i64 0) 8 Try.underlying55 info_int rfl (by decide) w.heap.size k c A (ints ((tyL x.2).take k)) rfl hown1 (.int .i64 u.1) rfl rfl (by omega) hbase ?_; intro A2 c2 w2 hown2 hg2 hb2)
      go_roundw
      case rel => exact ⟨k + 1, A2, c2, by omega, by go_num, rfl, by rw [HS.out, ints_snoc]; exact hown2, hTw1.trans hb2⟩
      case measure => simp [intOf]; omega
    · have hke : k = x.2.length := by omega
      have hlt' : ¬ (k : Int) < (x.2.length : Int) := by omega
      have HRR : Hid (RdL RI wr A x.2.length (tyL x.2)) := by
        show RdL _ _ _ _ _
        rw [hke, List.take_of_length_le (by rw [tyL_len]; exact Nat.le_refl _)] at hown
        exact rd_of_own (R := RI) hown (RI_ints HTR.out)
      have HK := Lib.hid hke
      clear hke
      go_wp2_with fail
      go_ret
      exact ⟨A, ⟨c, by rw [← HK.out]; rfl⟩, HRR.out, hTw⟩

/-- A model before another one: by the size, the type, the code. -/
def cmpI (x y : AlgebraM) : Int := if x.1 == y.1 then (if lexL (tyL x.2) (tyL y.2) == 0 then lexL (codeL x.2) (codeL y.2) else lexL (tyL x.2) (tyL y.2)) else x.1 - y.1
theorem lexL_bd : ∀ xs ys : List Int, -1 ≤ lexL xs ys ∧ lexL xs ys ≤ 1
  | [], [] => by simp [lexL]
  | [], _ :: _ => by simp [lexL]
  | _ :: _, [] => by simp [lexL]
  | x :: l, y :: m => by
    rw [lexL]
    split
    · exact lexL_bd l m
    · split <;> omega
theorem lexL_zero : ∀ {xs ys : List Int}, lexL xs ys = 0 ↔ xs = ys
  | [], [] => by simp [lexL]
  | [], _ :: _ => by simp [lexL]
  | _ :: _, [] => by simp [lexL]
  | x :: l, y :: m => by
    rw [lexL]
    split
    · rename_i h
      have h := eq_of_beq h
      rw [lexL_zero, h]
      simp
    · rename_i h
      have h' : ¬ x = y := fun e => h (by simp [e])
      split
      · simp [h']
      · simp [h']
theorem cmpI_zero {x y : AlgebraM} (hx : SmallP x) (hy : SmallP y) : cmpI x y = 0 ↔ x = y := by
  unfold cmpI
  constructor
  · intro h
    split at h
    · rename_i h1
      have h1 := eq_of_beq h1
      split at h
      · rename_i h2
        have h2 := lexL_zero.1 (eq_of_beq h2)
        exact Prod.ext h1 (code_eq (n := x.1.toNat) hx.2.2.2 (by rw [h1]; exact hy.2.2.2) h2 (lexL_zero.1 h))
      · rename_i h2
        exact absurd (by simp [h]) h2
    · rename_i h1
      exact absurd (by simp; omega) h1
  · rintro rfl
    have e1 : lexL (tyL x.2) (tyL x.2) = 0 := lexL_zero.2 rfl
    have e2 : lexL (codeL x.2) (codeL x.2) = 0 := lexL_zero.2 rfl
    simp [e1, e2]

set_option maxRecDepth 20000 in
set_option maxHeartbeats 8000000 in
theorem compareModels_any (cs ds : List Value) (x y : AlgebraM) (w : World) (h : shAlgebra.rd w cs x) (h' : shAlgebra.rd w ds y) (hx : SmallP x) (hy : SmallP y) :
    Calls Try.prog 54 #[.agg cs.toArray, .agg ds.toArray] w (Bl w (.int .i64 (cmpI x y))) := by
  have hrd := h
  have hrd' := h'
  obtain ⟨B, n, c, rfl, qs, qo⟩ := rdAlgebra h
  obtain ⟨D, m, d, rfl, qs', qo'⟩ := rdAlgebra h'
  obtain ⟨w0, hw0, T0, hsz0, BP, BQ⟩ := boxes2 w #[.int .i64 x.1, .slice B n c] #[.int .i64 y.1, .slice D m d] 27 27
  have HW0 := Lib.hid hw0
  have hx4 : x.2.length ≤ 1048576 := by have := hx.2.2.1; omega
  have hy4 : y.2.length ≤ 1048576 := by have := hy.2.2.1; omega
  have hcx := code_small hx
  have hcy := code_small hy
  have hx1 : 1 ≤ x.1 ∧ x.1 ≤ 5 := ⟨hx.1, hx.2.1⟩
  have hy1 : 1 ≤ y.1 ∧ y.1 ≤ 5 := ⟨hy.1, hy.2.1⟩
  have hxc : shAlgebra.cnt x ≤ 1048576 := by have := small_ops hx; show 0 + (x.2.length + cntS shOp.cnt x.2) ≤ _; omega
  have hyc : shAlgebra.cnt y ≤ 1048576 := by have := small_ops hy; show 0 + (y.2.length + cntS shOp.cnt y.2) ≤ _; omega
  have HRX := Lib.hid (code_R hx)
  have HRY := Lib.hid (code_R hy)
  have HC1 : ∀ wz, Below w0.heap.size w0 wz → Calls Try.prog 65 #[.agg #[.int .i64 x.1, .slice B n c]] wz (fun e w' => ∃ A c, e = .returned (.slice A x.2.length c) ∧ RdL RI w' A x.2.length (tyL x.2) ∧ Below wz.heap.size wz w') := fun wz hz =>
    typeOf_any [.int .i64 x.1, .slice B n c] x wz (shAlgebra.stab (shAlgebra.stab hrd T0.block) hz.block) hx4
  have HC2 : ∀ wz, Below w0.heap.size w0 wz → Calls Try.prog 65 #[.agg #[.int .i64 y.1, .slice D m d]] wz (fun e w' => ∃ A c, e = .returned (.slice A y.2.length c) ∧ RdL RI w' A y.2.length (tyL y.2) ∧ Below wz.heap.size wz w') := fun wz hz =>
    typeOf_any [.int .i64 y.1, .slice D m d] y wz (shAlgebra.stab (shAlgebra.stab hrd' T0.block) hz.block) hy4
  have HC3 : ∀ wz, Below w0.heap.size w0 wz → Calls Try.prog 84 #[.agg #[.int .i64 x.1, .slice B n c]] wz (fun e w' => ∃ A c, e = .returned (.slice A (codeL x.2).length c) ∧ RdL RI w' A (codeL x.2).length (codeL x.2) ∧ Below wz.heap.size wz w') := fun wz hz =>
    (codeOf_any [.int .i64 x.1, .slice B n c] x wz (shAlgebra.stab (shAlgebra.stab hrd T0.block) hz.block) hxc).mono fun e w' ⟨A, c, h1, h2, h3⟩ => ⟨A, c, h1, rd_of_own (R := RI) h2 (RI_ints HRX.out), h3⟩
  have HC4 : ∀ wz, Below w0.heap.size w0 wz → Calls Try.prog 84 #[.agg #[.int .i64 y.1, .slice D m d]] wz (fun e w' => ∃ A c, e = .returned (.slice A (codeL y.2).length c) ∧ RdL RI w' A (codeL y.2).length (codeL y.2) ∧ Below wz.heap.size wz w') := fun wz hz =>
    (codeOf_any [.int .i64 y.1, .slice D m d] y wz (shAlgebra.stab (shAlgebra.stab hrd' T0.block) hz.block) hyc).mono fun e w' ⟨A, c, h1, h2, h3⟩ => ⟨A, c, h1, rd_of_own (R := RI) h2 (RI_ints HRY.out), h3⟩
  have cP0 := BP.cell 0
  have cP1 := BP.cell 1
  have cQ0 := BQ.cell 0
  have cQ1 := BQ.cell 1
  simp at cP0 cP1 cQ0 cQ1
  clear hw0 hsz0 h h' qo qo'
  by_cases hxy : x.1 = y.1
  · have hne : (x.1 != y.1) = false := by simp [hxy]
    have HX0 : Hid ((x.1 == y.1) = true) := by show _ = _; simp [hxy]
    have hT0 := lexL_bd (tyL x.2) (tyL y.2)
    have hT1 := lexL_bd (codeL x.2) (codeL y.2)
    obtain ⟨t, HT⟩ : ∃ t, Hid (lexL (tyL x.2) (tyL y.2) = t) := ⟨_, rfl⟩
    obtain ⟨u, HU⟩ : ∃ u, Hid (lexL (codeL x.2) (codeL y.2) = u) := ⟨_, rfl⟩
    rw [HT.out] at hT0
    rw [HU.out] at hT1
    clear hxy
    go_enter Try.func54, Try.ntmps54
    go_upto_region 1 with fail
    rw [← HW0.out]
    have Tk : Below w0.heap.size w0 w0 := Below.refl _ _
    go_wp2_with fail
    go_cut [5] (fun v5 wx => v5 = .int .i64 t ∧ Below w0.heap.size w0 wx)
    case first =>
      go_region_held3 (fun w' => w'.cell? ⟨w.heap.size, 0, none⟩ = some (.int .i64 x.1) ∧ w'.cell? ⟨w.heap.size, 1, none⟩ = some (.slice B n c) ∧ w'.cell? ⟨w.heap.size + 1, 0, none⟩ = some (.int .i64 y.1) ∧ w'.cell? ⟨w.heap.size + 1, 1, none⟩ = some (.slice D m d)) (first | go_keep | exact ⟨keepc Tk cP0, keepc Tk cP1, keepc Tk cQ0, keepc Tk cQ1⟩) (first
        | (go_at_call 65; (with_reducible refine (HC1 _ ?_).mono ?_); (first | exact Tk | exact Below.drew Tk); rintro e wn ⟨A1, c1, rfl, R1, hbn⟩; (try replace R2 := (by first | exact R2.next stab_RI hbn | exact (R2.drew stab_RI).next stab_RI hbn)); replace Tk := below_next (by first | exact Tk | exact Below.drew Tk) hbn rfl)
        | (go_at_call 65; (with_reducible refine (HC2 _ ?_).mono ?_); (first | exact Tk | exact Below.drew Tk); rintro e wn ⟨A2, c2, rfl, R2, hbn⟩; (try replace R1 := (by first | exact R1.next stab_RI hbn | exact (R1.drew stab_RI).next stab_RI hbn)); replace Tk := below_next (by first | exact Tk | exact Below.drew Tk) hbn rfl)
        | (go_at_call 85; refine (compareLists_any _ _ _ _ _ _ _ _ _ (by first | exact R1 | exact R1.drew stab_RI) (by first | exact R2 | exact R2.drew stab_RI)).mono ?_; rintro e wm ⟨rfl, z, rfl⟩; rw [HT.out]; replace Tk := below_drewN (by first | exact Tk | exact Below.drew Tk) z))
      all_goals
        go_wp2_with fail
        go_meet
        exact ⟨rfl, by first | exact Tk | exact Below.drew Tk⟩
    case rest =>
      obtain ⟨rfl, hbc⟩ := hcut
      obtain ⟨w1, HWC⟩ : ∃ wq : World, wq = wc := ⟨_, rfl⟩
      subst HWC
      have hT := below_next T0 hbc rfl
      clear Tk
      by_cases ht0 : t = 0
      · have hne2 : (t != 0) = false := by simp [ht0]
        have HX1 : Hid ((t == 0) = true) := by show _ = _; simp [ht0]
        have Tk := hbc
        have dP0 := keepc hbc cP0
        have dP1 := keepc hbc cP1
        have dQ0 := keepc hbc cQ0
        have dQ1 := keepc hbc cQ1
        clear ht0
        go_wp2_with fail
        go_cut [4] (fun v4 wx => v4 = (.int .i64 u) ∧ Below w0.heap.size w0 wx)
        case first =>
          go_region_held3 (fun w' => w'.cell? ⟨w.heap.size, 0, none⟩ = some (.int .i64 x.1) ∧ w'.cell? ⟨w.heap.size, 1, none⟩ = some (.slice B n c) ∧ w'.cell? ⟨w.heap.size + 1, 0, none⟩ = some (.int .i64 y.1) ∧ w'.cell? ⟨w.heap.size + 1, 1, none⟩ = some (.slice D m d)) (first | go_keep | exact ⟨keepc Tk cP0, keepc Tk cP1, keepc Tk cQ0, keepc Tk cQ1⟩) (first
            | (go_at_call 84; (with_reducible refine (HC3 _ ?_).mono ?_); (first | exact Tk | exact Below.drew Tk); rintro e wn ⟨A1, c1, rfl, R1, hbn⟩; (try replace R2 := (by first | exact R2.next stab_RI hbn | exact (R2.drew stab_RI).next stab_RI hbn)); replace Tk := below_next (by first | exact Tk | exact Below.drew Tk) hbn rfl)
            | (go_at_call 84; (with_reducible refine (HC4 _ ?_).mono ?_); (first | exact Tk | exact Below.drew Tk); rintro e wn ⟨A2, c2, rfl, R2, hbn⟩; (try replace R1 := (by first | exact R1.next stab_RI hbn | exact (R1.drew stab_RI).next stab_RI hbn)); replace Tk := below_next (by first | exact Tk | exact Below.drew Tk) hbn rfl)
            | (go_at_call 85; refine (compareLists_any _ _ _ _ _ _ _ _ _ (by first | exact R1 | exact R1.drew stab_RI) (by first | exact R2 | exact R2.drew stab_RI)).mono ?_; rintro e wm ⟨rfl, z, rfl⟩; rw [HU.out]; replace Tk := below_drewN (by first | exact Tk | exact Below.drew Tk) z))
          all_goals
            go_wp2_with fail
            go_meet
            exact ⟨rfl, by first | exact Tk | exact Below.drew Tk⟩
        case rest =>
          obtain ⟨rfl, hbd⟩ := hcut
          have hT2 := below_next T0 hbd rfl
          go_wp2_with fail
          go_ret
          exact ⟨by show Ending.returned (.int .i64 u) = _; rw [show cmpI x y = _ from by unfold cmpI; rw [HX0.out, if_pos rfl, HT.out, HX1.out, if_pos rfl, HU.out]], hT2⟩
      · have hne2 : (t != 0) = true := by simp [ht0]
        have HX1 : Hid ((t == 0) = false) := by show _ = _; simp [ht0]
        clear ht0
        go_wp2_with fail
        go_ret
        exact ⟨by show Ending.returned (.int .i64 t) = _; rw [show cmpI x y = _ from by unfold cmpI; rw [HX0.out, if_pos rfl, HT.out, HX1.out, if_neg (by decide)]], hT⟩
  · have hne : (x.1 != y.1) = true := by simp [hxy]
    have HX0 : Hid ((x.1 == y.1) = false) := by show _ = _; simp [hxy]
    clear hxy
    go_enter Try.func54, Try.ntmps54
    go_upto_region 1 with fail
    rw [← HW0.out]
    go_wp2_with fail
    go_ret
    exact ⟨by show Ending.returned (.int .i64 (x.1 - y.1)) = _; rw [show cmpI x y = _ from by unfold cmpI; rw [HX0.out, if_neg (by decide)]], T0⟩
def befB (x y : AlgebraM) : Bool := if x.1 == y.1 then (if lexL (tyL x.2) (tyL y.2) == 0 then decide (lexL (codeL x.2) (codeL y.2) < 0) else decide (lexL (tyL x.2) (tyL y.2) < 0)) else decide (x.1 < y.1)
theorem befB_cmp (x y : AlgebraM) : befB x y = decide (cmpI x y < 0) := by
  unfold befB cmpI
  split
  · split <;> rfl
  · exact decide_eq_decide.2 (by omega)
set_option maxRecDepth 20000 in
set_option maxHeartbeats 8000000 in
theorem l31Before_any (cs ds : List Value) (x y : AlgebraM) (w : World) (h : shAlgebra.rd w cs x) (h' : shAlgebra.rd w ds y) (hx : SmallP x) (hy : SmallP y) :
    Calls Try.prog 88 #[.agg cs.toArray, .agg ds.toArray] w (Bl w (.bool (befB x y))) := by
  have hrd := h
  have hrd' := h'
  obtain ⟨B, n, c, rfl, qs, qo⟩ := rdAlgebra h
  obtain ⟨D, m, d, rfl, qs', qo'⟩ := rdAlgebra h'
  obtain ⟨w0, hw0, T0, hsz0, BP, BQ⟩ := boxes2 w #[.int .i64 x.1, .slice B n c] #[.int .i64 y.1, .slice D m d] 27 27
  have HW0 := Lib.hid hw0
  have hx4 : x.2.length ≤ 1048576 := by have := hx.2.2.1; omega
  have hy4 : y.2.length ≤ 1048576 := by have := hy.2.2.1; omega
  have hcx := code_small hx
  have hcy := code_small hy
  have hx1 : 1 ≤ x.1 ∧ x.1 ≤ 5 := ⟨hx.1, hx.2.1⟩
  have hy1 : 1 ≤ y.1 ∧ y.1 ≤ 5 := ⟨hy.1, hy.2.1⟩
  have hxc : shAlgebra.cnt x ≤ 1048576 := by have := small_ops hx; show 0 + (x.2.length + cntS shOp.cnt x.2) ≤ _; omega
  have hyc : shAlgebra.cnt y ≤ 1048576 := by have := small_ops hy; show 0 + (y.2.length + cntS shOp.cnt y.2) ≤ _; omega
  have HRX := Lib.hid (code_R hx)
  have HRY := Lib.hid (code_R hy)
  have HC1 : ∀ wz, Below w0.heap.size w0 wz → Calls Try.prog 118 #[.agg #[.int .i64 x.1, .slice B n c]] wz (fun e w' => ∃ A c, e = .returned (.slice A x.2.length c) ∧ RdL RI w' A x.2.length (tyL x.2) ∧ Below wz.heap.size wz w') := fun wz hz =>
    l2Type_any [.int .i64 x.1, .slice B n c] x wz (shAlgebra.stab (shAlgebra.stab hrd T0.block) hz.block) hx4
  have HC2 : ∀ wz, Below w0.heap.size w0 wz → Calls Try.prog 118 #[.agg #[.int .i64 y.1, .slice D m d]] wz (fun e w' => ∃ A c, e = .returned (.slice A y.2.length c) ∧ RdL RI w' A y.2.length (tyL y.2) ∧ Below wz.heap.size wz w') := fun wz hz =>
    l2Type_any [.int .i64 y.1, .slice D m d] y wz (shAlgebra.stab (shAlgebra.stab hrd' T0.block) hz.block) hy4
  have HC3 : ∀ wz, Below w0.heap.size w0 wz → Calls Try.prog 72 #[.agg #[.int .i64 x.1, .slice B n c]] wz (fun e w' => ∃ A c, e = .returned (.slice A (codeL x.2).length c) ∧ RdL RI w' A (codeL x.2).length (codeL x.2) ∧ Below wz.heap.size wz w') := fun wz hz =>
    (l31Code_any [.int .i64 x.1, .slice B n c] x wz (shAlgebra.stab (shAlgebra.stab hrd T0.block) hz.block) hxc).mono fun e w' ⟨A, c, h1, h2, h3⟩ => ⟨A, c, h1, rd_of_own (R := RI) h2 (RI_ints HRX.out), h3⟩
  have HC4 : ∀ wz, Below w0.heap.size w0 wz → Calls Try.prog 72 #[.agg #[.int .i64 y.1, .slice D m d]] wz (fun e w' => ∃ A c, e = .returned (.slice A (codeL y.2).length c) ∧ RdL RI w' A (codeL y.2).length (codeL y.2) ∧ Below wz.heap.size wz w') := fun wz hz =>
    (l31Code_any [.int .i64 y.1, .slice D m d] y wz (shAlgebra.stab (shAlgebra.stab hrd' T0.block) hz.block) hyc).mono fun e w' ⟨A, c, h1, h2, h3⟩ => ⟨A, c, h1, rd_of_own (R := RI) h2 (RI_ints HRY.out), h3⟩
  have cP0 := BP.cell 0
  have cP1 := BP.cell 1
  have cQ0 := BQ.cell 0
  have cQ1 := BQ.cell 1
  simp at cP0 cP1 cQ0 cQ1
  clear hw0 hsz0 h h' qo qo'
  by_cases hxy : x.1 = y.1
  · have hne : (x.1 != y.1) = false := by simp [hxy]
    have HX0 : Hid ((x.1 == y.1) = true) := by show _ = _; simp [hxy]
    have hT0 := lexL_bd (tyL x.2) (tyL y.2)
    have hT1 := lexL_bd (codeL x.2) (codeL y.2)
    obtain ⟨t, HT⟩ : ∃ t, Hid (lexL (tyL x.2) (tyL y.2) = t) := ⟨_, rfl⟩
    obtain ⟨u, HU⟩ : ∃ u, Hid (lexL (codeL x.2) (codeL y.2) = u) := ⟨_, rfl⟩
    rw [HT.out] at hT0
    rw [HU.out] at hT1
    clear hxy
    go_enter Try.func88, Try.ntmps88
    go_upto_region 1 with fail
    rw [← HW0.out]
    have Tk : Below w0.heap.size w0 w0 := Below.refl _ _
    go_wp2_with fail
    go_cut [5] (fun v5 wx => v5 = .int .i64 t ∧ Below w0.heap.size w0 wx)
    case first =>
      go_region_held3 (fun w' => w'.cell? ⟨w.heap.size, 0, none⟩ = some (.int .i64 x.1) ∧ w'.cell? ⟨w.heap.size, 1, none⟩ = some (.slice B n c) ∧ w'.cell? ⟨w.heap.size + 1, 0, none⟩ = some (.int .i64 y.1) ∧ w'.cell? ⟨w.heap.size + 1, 1, none⟩ = some (.slice D m d)) (first | go_keep | exact ⟨keepc Tk cP0, keepc Tk cP1, keepc Tk cQ0, keepc Tk cQ1⟩) (first
        | (go_at_call 118; (with_reducible refine (HC1 _ ?_).mono ?_); (first | exact Tk | exact Below.drew Tk); rintro e wn ⟨A1, c1, rfl, R1, hbn⟩; (try replace R2 := (by first | exact R2.next stab_RI hbn | exact (R2.drew stab_RI).next stab_RI hbn)); replace Tk := below_next (by first | exact Tk | exact Below.drew Tk) hbn rfl)
        | (go_at_call 118; (with_reducible refine (HC2 _ ?_).mono ?_); (first | exact Tk | exact Below.drew Tk); rintro e wn ⟨A2, c2, rfl, R2, hbn⟩; (try replace R1 := (by first | exact R1.next stab_RI hbn | exact (R1.drew stab_RI).next stab_RI hbn)); replace Tk := below_next (by first | exact Tk | exact Below.drew Tk) hbn rfl)
        | (go_at_call 117; refine (l31Compare_any _ _ _ _ _ _ _ _ _ (by first | exact R1 | exact R1.drew stab_RI) (by first | exact R2 | exact R2.drew stab_RI)).mono ?_; rintro e wm ⟨rfl, z, rfl⟩; rw [HT.out]; replace Tk := below_drewN (by first | exact Tk | exact Below.drew Tk) z))
      all_goals
        go_wp2_with fail
        go_meet
        exact ⟨rfl, by first | exact Tk | exact Below.drew Tk⟩
    case rest =>
      obtain ⟨rfl, hbc⟩ := hcut
      obtain ⟨w1, HWC⟩ : ∃ wq : World, wq = wc := ⟨_, rfl⟩
      subst HWC
      have hT := below_next T0 hbc rfl
      clear Tk
      by_cases ht0 : t = 0
      · have hne2 : (t != 0) = false := by simp [ht0]
        have HX1 : Hid ((t == 0) = true) := by show _ = _; simp [ht0]
        have Tk := hbc
        have dP0 := keepc hbc cP0
        have dP1 := keepc hbc cP1
        have dQ0 := keepc hbc cQ0
        have dQ1 := keepc hbc cQ1
        clear ht0
        go_wp2_with fail
        go_cut [4] (fun v4 wx => v4 = (.bool (decide (u < 0))) ∧ Below w0.heap.size w0 wx)
        case first =>
          go_region_held3 (fun w' => w'.cell? ⟨w.heap.size, 0, none⟩ = some (.int .i64 x.1) ∧ w'.cell? ⟨w.heap.size, 1, none⟩ = some (.slice B n c) ∧ w'.cell? ⟨w.heap.size + 1, 0, none⟩ = some (.int .i64 y.1) ∧ w'.cell? ⟨w.heap.size + 1, 1, none⟩ = some (.slice D m d)) (first | go_keep | exact ⟨keepc Tk cP0, keepc Tk cP1, keepc Tk cQ0, keepc Tk cQ1⟩) (first
            | (go_at_call 72; (with_reducible refine (HC3 _ ?_).mono ?_); (first | exact Tk | exact Below.drew Tk); rintro e wn ⟨A1, c1, rfl, R1, hbn⟩; (try replace R2 := (by first | exact R2.next stab_RI hbn | exact (R2.drew stab_RI).next stab_RI hbn)); replace Tk := below_next (by first | exact Tk | exact Below.drew Tk) hbn rfl)
            | (go_at_call 72; (with_reducible refine (HC4 _ ?_).mono ?_); (first | exact Tk | exact Below.drew Tk); rintro e wn ⟨A2, c2, rfl, R2, hbn⟩; (try replace R1 := (by first | exact R1.next stab_RI hbn | exact (R1.drew stab_RI).next stab_RI hbn)); replace Tk := below_next (by first | exact Tk | exact Below.drew Tk) hbn rfl)
            | (go_at_call 117; refine (l31Compare_any _ _ _ _ _ _ _ _ _ (by first | exact R1 | exact R1.drew stab_RI) (by first | exact R2 | exact R2.drew stab_RI)).mono ?_; rintro e wm ⟨rfl, z, rfl⟩; rw [HU.out]; replace Tk := below_drewN (by first | exact Tk | exact Below.drew Tk) z))
          all_goals
            go_wp2_with fail
            go_meet
            exact ⟨rfl, by first | exact Tk | exact Below.drew Tk⟩
        case rest =>
          obtain ⟨rfl, hbd⟩ := hcut
          have hT2 := below_next T0 hbd rfl
          go_wp2_with fail
          go_ret
          exact ⟨by show Ending.returned (.bool (decide (u < 0))) = _; rw [show befB x y = _ from by unfold befB; rw [HX0.out, if_pos rfl, HT.out, HX1.out, if_pos rfl, HU.out]], hT2⟩
      · have hne2 : (t != 0) = true := by simp [ht0]
        have HX1 : Hid ((t == 0) = false) := by show _ = _; simp [ht0]
        clear ht0
        go_wp2_with fail
        go_ret
        exact ⟨by show Ending.returned (.bool (decide (t < 0))) = _; rw [show befB x y = _ from by unfold befB; rw [HX0.out, if_pos rfl, HT.out, HX1.out, if_neg (by decide)]], hT⟩
  · have hne : (x.1 != y.1) = true := by simp [hxy]
    have HX0 : Hid ((x.1 == y.1) = false) := by show _ = _; simp [hxy]
    clear hxy
    go_enter Try.func88, Try.ntmps88
    go_upto_region 1 with fail
    rw [← HW0.out]
    go_wp2_with fail
    go_ret
    exact ⟨by show Ending.returned (.bool (decide (x.1 < y.1))) = _; rw [show befB x y = _ from by unfold befB; rw [HX0.out, if_neg (by decide)]], T0⟩
end Go.Proofs.Ytkmgbdljiajlaaa
namespace Go.Proofs.Ytkmgbdljiajlaaa
open Go.RowKit

def lastB (pre : List EntryM) (e : EntryM) : Bool := match pre.getLast? with | none => true | some p => befB p.2 e.2
noncomputable def okE (pre : List EntryM) (e : EntryM) : Bool := nameB e.1 && (!(hasS e.1 (pre.map (·.1))) && (smallB e.2 && (eqC (canA e.2) e.2 && lastB pre e)))
noncomputable def catF : List EntryM → List EntryM → Bool
  | _, [] => true
  | pre, e :: l => okE pre e && catF (pre ++ [e]) l
noncomputable def catB (xs : List EntryM) : Bool := decide (xs.length ≤ 12) && catF [] xs
def CatAt (xs : List EntryM) (k : Nat) : Prop := catF (xs.take k) (xs.drop k) = catF [] xs
theorem CatAt.step {xs : List EntryM} {k : Nat} {e : EntryM} (h : CatAt xs k) (hd : xs.drop k = e :: xs.drop (k + 1)) (hx : xs[k]? = some e) (ho : okE (xs.take k) e = true) : CatAt xs (k + 1) := by
  unfold CatAt at *
  rw [hd, catF, ho, Bool.true_and] at h
  rw [take_snoc hx]
  exact h
theorem CatAt.stop {xs : List EntryM} {k : Nat} {e : EntryM} (h : CatAt xs k) (hd : xs.drop k = e :: xs.drop (k + 1)) (ho : okE (xs.take k) e = false) : false = catB xs := by
  unfold CatAt at *
  rw [hd, catF, ho, Bool.false_and] at h
  unfold catB
  rw [← h, Bool.and_false]
theorem CatAt.done {xs : List EntryM} {k : Nat} (h : CatAt xs k) (hl : xs.length ≤ 12) (hk : ¬ k < xs.length) : true = catB xs := by
  unfold CatAt at *
  rw [List.drop_eq_nil_of_le (by omega), catF] at h
  unfold catB
  rw [← h, Bool.and_true]
  exact (decide_eq_true hl).symm
theorem catB_big {xs : List EntryM} (h : ¬ xs.length ≤ 12) : false = catB xs := by unfold catB; rw [decide_eq_false h, Bool.false_and]
theorem Below.keptMap {B : Nat} {w w1 w2 : World} (h : Below B w w1) {b : Nat} (hg : w1.grownBy w2 (some b)) (hB : B ≤ b) (hz : B ≤ w1.heap.size) : Below B w w2 := h.grown hg hz fun j hj => by cases hj; exact hB

set_option maxRecDepth 100000 in
set_option maxHeartbeats 16000000 in
theorem isCat_any (A : Option Addr) (n c : Nat) (xs : List EntryM) (w : World) (h : RdN shEntry.m shEntry.rd w A n xs) :
    Calls Try.prog 10 #[.slice A n c] w (Bl w (.bool (catB xs))) := by
  obtain rfl : xs.length = n := h.len
  have hle := h.le
  have hmm := @run_makeMap Try.prog
  by_cases hn : xs.length ≤ 12
  · have hn' : ¬ (12 : Int) < (xs.length : Int) := by omega
    obtain ⟨w0, hw0⟩ : ∃ w0, w0 = w.alloc (.map #[] 0) := ⟨_, rfl⟩
    have M0 : MapS w0 w.heap.size [] := by rw [hw0]; exact MapS.made _
    have T0 : Below w.heap.size w w0 := by rw [hw0]; exact below_box _ _
    have HW0 := Lib.hid hw0
    clear hw0
    go_enter Try.func10, Try.ntmps10
    go_wp2_with fail
    rw [← HW0.out]
    go_loopw [14] (fun i wr => ∃ k : Nat, k ≤ xs.length ∧ i = .int .i64 k ∧ CatAt xs k ∧ (∀ e ∈ xs.take k, SmallP e.2) ∧ MapS wr w.heap.size ((xs.take k).map (·.1)) ∧ Below w.heap.size w wr) (fun i _ => xs.length - (intOf i).toNat)
    case atStart => exact ⟨0, Nat.zero_le _, rfl, rfl, (fun e he => by simp at he), M0, T0⟩
    case round =>
      clear M0 T0
      obtain ⟨k, hk, rfl, H, hS, hM, hTw⟩ := hrel
      have hmb := hM.lt
      by_cases hlt : k < xs.length
      · obtain ⟨b, o, vs, e, hA, -, hc, hr, hd, hxe⟩ := h.at hlt
        obtain ⟨Bm, m, d, rfl, hsz, hIn, hops⟩ := rdEntry hr
        have cc0 : wr.cell? ⟨b, o + k * 3, none⟩ = some (.string e.1) := keepc hTw (hc 0 _ rfl)
        have cc1 : wr.cell? ⟨b, o + k * 3 + 1, none⟩ = some (.int .i64 e.2.1) := keepc hTw (hc 1 _ rfl)
        have cc2 : wr.cell? ⟨b, o + k * 3 + 2, none⟩ = some (.slice Bm m d) := keepc hTw (hc 2 _ rfl)
        have hral := mkAlgebra (cOps := d) hIn hops
        obtain ⟨wb, HWB⟩ : ∃ wb, Hid (wb = wr.alloc (.cells #[.string e.1, .int .i64 e.2.1, .slice Bm m d] 33)) := ⟨_, rfl⟩
        have hb1 : Below wr.heap.size wr wb := by rw [HWB.out]; exact below_box _ _
        have BN : Blk wb wr.heap.size 33 #[.string e.1, .int .i64 e.2.1, .slice Bm m d] := by rw [HWB.out]; exact Blk.new _ _ _
        have Tb := below_next hTw hb1 rfl
        have Mb := hM.next hb1
        have hra := shAlgebra.stab hral Tb.block
        have cN0 := BN.cell 0
        have cN1 := BN.cell 1
        have cN2 := BN.cell 2
        simp at cN0 cN1 cN2
        have HL := Lib.hid Mb
        have HST := Lib.hid hS
        have HH := Lib.hid H
        have HD := Lib.hid hd
        have HX := Lib.hid hxe
        have hk0 : (0 : Int) ≤ (k : Int) := by omega
        have hk1 : (k : Int) < (xs.length : Int) := by omega
        subst hA
        obtain ⟨pre, HP⟩ : ∃ pre, Hid (xs.take k = pre) := ⟨_, rfl⟩
        have hpl : pre.length = k := by rw [← HP.out, List.length_take]; omega
        have HPL := Lib.hid hpl
        rw [HP.out] at Mb
        obtain ⟨r1, HR1⟩ : ∃ r, Hid (nameB e.1 = r) := ⟨_, rfl⟩
        obtain ⟨r2, HR2⟩ : ∃ r, Hid (hasS e.1 (pre.map (·.1)) = r) := ⟨_, rfl⟩
        obtain ⟨r3, HR3⟩ : ∃ r, Hid (smallB e.2 = r) := ⟨_, rfl⟩
        have HOK : Hid (okE (xs.take k) e = (r1 && (!r2 && (r3 && (eqC (canA e.2) e.2 && lastB pre e))))) := by show _ = _; rw [HP.out]; unfold okE; rw [HR1.out, HR2.out, HR3.out]
        have hlook := Mb.look hsz
        rw [HR2.out] at hlook
        clear hS H hd hxe hc hr hpl
        rcases r1 with _ | _
        · go_wp2_with fail
          rw [← HWB.out]
          go_wp2_with (go_at_call 41; refine (isName_any _ _ hsz).mono ?_; rintro e' w' ⟨rfl, rfl⟩; rw [HR1.out])
          go_ret
          exact ⟨ret_bool (HH.out.stop HD.out (by rw [HOK.out]; rfl)), Tb⟩
        · rcases r2 with _ | _
          · rcases r3 with _ | _
            · go_wp2_with fail
              rw [← HWB.out]
              go_wp2_with (go_at_call 41; refine (isName_any _ _ hsz).mono ?_; rintro e' w' ⟨rfl, rfl⟩; rw [HR1.out])
              refine (isNamed_any _ e.2 _ hra).mono ?_
              rintro e' w1 ⟨rfl, hb2⟩
              rw [HR3.out]
              have T1 := below_next Tb hb2 rfl
              go_wp2_with fail
              go_ret
              exact ⟨ret_bool (HH.out.stop HD.out (by rw [HOK.out]; rfl)), T1⟩
            · have hsm := small_iff.1 HR3.out
              go_wp2_with fail
              rw [← HWB.out]
              go_wp2_with (go_at_call 41; refine (isName_any _ _ hsz).mono ?_; rintro e' w' ⟨rfl, rfl⟩; rw [HR1.out])
              refine (isNamed_any _ e.2 _ hra).mono ?_
              rintro e' w1 ⟨rfl, hb2⟩
              rw [HR3.out]
              have T1 := below_next Tb hb2 rfl
              have M1 := Mb.next hb2
              have BN1 := BN.next hb2
              obtain ⟨w2, hput, M2, g2⟩ := M1.put hsz (by rw [List.length_map, HPL.out]; unfold maxLen; omega)
              have T2 : Below w.heap.size w w2 := Below.keptMap T1 g2 (Nat.le_refl _) T1.size
              have BN2 : Blk w2 wr.heap.size 33 #[.string e.1, .int .i64 e.2.1, .slice Bm m d] := BN1.grown g2 (by intro hh; injection hh with hh; omega)
              have M2' : MapS w2 w.heap.size ((pre ++ [e]).map (·.1)) := by rw [List.map_append]; exact M2
              have HPS : Hid (xs.take (k + 1) = pre ++ [e]) := by show _ = _; rw [take_snoc HX.out, HP.out]
              obtain ⟨n, hne⟩ : ∃ n : Nat, e.2.1 = (n : Int) := ⟨e.2.1.toNat, by have h1 := hsm.1; omega⟩
              have HCAN := Lib.hid (canonical_any [.int .i64 e.2.1, .slice Bm m d] e.2 n w2 (shAlgebra.stab hral T2.block) hsm hne)
              have HEX : Hid (((n : Int), (canA e.2).2) = canA e.2) := by show _ = _; rw [← hne]; rfl
              have HRX : Hid (InR (n : Int)) := by show InR _; rw [← hne]; exact small_R hsm
              clear cN0 cN1 cN2 hlook hne
              have cL0 := BN1.cell 0
              clear M2 M1 Mb BN BN1 cc0 cc1 cc2 hM
              have cN0 := BN2.cell 0
              have cN1 := BN2.cell 1
              have cN2 := BN2.cell 2
              simp at cN0 cN1 cN2 cL0
              go_wp2_with fail
              clear cN0 cN1 cN2 cL0 hput
              refine HCAN.out.mono ?_
              rintro e' w3 ⟨vb, css, bls, Af, cf, rfl, hP, -, hb3⟩
              have T3 := below_next T2 hb3 rfl
              have BN3 := BN2.next hb3
              have M3 := M2'.next hb3
              obtain ⟨VX, vcx, rfl⟩ := own_slice hP.2.1
              obtain ⟨LX, HLX⟩ : ∃ L, Hid ((canA e.2).2.length = L) := ⟨_, rfl⟩
              rw [HLX.out] at hP
              rw [HLX.out]
              obtain ⟨w4, hw4, T4', -, BX⟩ := boxes1 w3 #[.int .i64 (n : Int), .slice VX LX vcx] 27
              have HW4 := Lib.hid hw4
              have T4 := below_next T3 T4' rfl
              have BN4 := BN3.next T4'
              have M4 := M3.next T4'
              have rdx : shAlgebra.rd w4 [.int .i64 (n : Int), .slice VX LX vcx] (canA e.2) := by
                have := (hP.next T4').alg HRX.out
                rw [HEX.out] at this
                exact this
              have rdm := shAlgebra.stab hral T4.block
              clear hw4 hP BN2 M2'
              go_upto_region 11 with fail
              rw [← HW4.out]
              have cX0 := BX.cell 0
              have cX1 := BX.cell 1
              have cN1 := BN4.cell 1
              have cN2 := BN4.cell 2
              simp at cX0 cX1 cN1 cN2
              go_wp2_with fail
              refine (sameAlgebra_any _ _ _ _ _ rdx rdm).mono ?_
              rintro e' w5 ⟨rfl, hb5⟩
              have T5 := below_next T4 hb5 rfl
              have M5 := M4.next hb5
              have BN5 := BN4.next hb5
              obtain ⟨r4, HR4⟩ : ∃ r, Hid (eqC (canA e.2) e.2 = r) := ⟨_, rfl⟩
              rw [HR4.out]
              rw [HR4.out] at HOK
              clear cX0 cX1 cN1 cN2
              rcases r4 with _ | _
              · go_wp2_with fail
                go_ret
                exact ⟨ret_bool (HH.out.stop HD.out (by rw [HOK.out]; rfl)), T5⟩
              · have HSN : Hid (∀ e' ∈ xs.take (k + 1), SmallP e'.2) := by
                  show ∀ e' ∈ xs.take (k + 1), SmallP e'.2
                  intro e' he'
                  rw [HPS.out, List.mem_append] at he'
                  rcases he' with h1 | h1
                  · exact HST.out e' (by rw [HP.out]; exact h1)
                  · rw [List.mem_singleton] at h1
                    subst h1
                    exact hsm
                by_cases hk00 : k = 0
                · have hkz : ¬ (0 : Int) < (k : Int) := by omega
                  have HLB : Hid (lastB pre e = true) := by
                    show _ = _
                    have : pre = [] := List.eq_nil_of_length_eq_zero (by rw [HPL.out]; exact hk00)
                    rw [this]
                    rfl
                  clear hk00
                  go_upto_region 13 with fail
                  have hkz2 : decide (0 < k) = false := decide_eq_false (by omega)
                  go_quiet (fail)
                  clear hkz2
                  go_wp2_with fail
                  go_roundw
                  case rel => exact ⟨k + 1, by omega, by go_num, HH.out.step HD.out HX.out (by rw [HOK.out, HLB.out]; rfl), HSN.out, by rw [HPS.out]; exact M5, below_drewN T5 _⟩
                  case measure => simp [intOf]; omega
                · have hkz : (0 : Int) < (k : Int) := by omega
                  obtain ⟨b', o', vs', p, hA', -, hc', hr', -, hxp⟩ := h.at (k := k - 1) (by omega)
                  have hA2 := hA'
                  simp only [Option.some.injEq, Addr.mk.injEq, and_true] at hA2
                  obtain ⟨rfl, rfl⟩ := hA2
                  obtain ⟨Bp, mp, dp, rfl, -, hIp, hops'⟩ := rdEntry hr'
                  have hpm : p ∈ xs.take k := by
                    have : (xs.take k)[k - 1]? = some p := by rw [List.getElem?_take, if_pos (by omega)]; exact hxp
                    exact List.mem_of_getElem? this
                  have hsp := HST.out p hpm
                  have HLB : Hid (lastB pre e = befB p.2 e.2) := by
                    show _ = _
                    unfold lastB
                    rw [← HP.out, List.getLast?_take, if_neg hk00, hxp]
                    rfl
                  have hral' := mkAlgebra (cOps := dp) hIp hops'
                  have d1 : w5.cell? ⟨b, o + (k - 1) * 3 + 1, none⟩ = some (.int .i64 p.2.1) := keepc T5 (hc' 1 _ rfl)
                  have d2 : w5.cell? ⟨b, o + (k - 1) * 3 + 2, none⟩ = some (.slice Bp mp dp) := keepc T5 (hc' 2 _ rfl)
                  have hB := befB_cmp p.2 e.2
                  obtain ⟨cv, HCV⟩ : ∃ cv, Hid (cmpI p.2 e.2 = cv) := ⟨_, rfl⟩
                  rw [HCV.out] at hB
                  have HB := Lib.hid hB
                  have HC1 : ∀ wz, Below w5.heap.size w5 wz → Calls Try.prog 54 #[.agg #[.int .i64 p.2.1, .slice Bp mp dp], .agg #[.int .i64 e.2.1, .slice Bm m d]] wz (Bl wz (.int .i64 cv)) := fun wz hz => by
                    have T := below_next T5 hz rfl
                    have := compareModels_any [.int .i64 p.2.1, .slice Bp mp dp] [.int .i64 e.2.1, .slice Bm m d] p.2 e.2 wz (shAlgebra.stab hral' T.block) (shAlgebra.stab hral T.block) hsp hsm
                    rw [HCV.out] at this
                    exact this
                  clear hk00 hA' hc' hr' hxp hpm hB hops' hops hIp
                  go_upto_region 13 with fail
                  have Tk : Below w5.heap.size w5 w5 := Below.refl _ _
                  have cN1 := BN5.cell 1
                  have cN2 := BN5.cell 2
                  simp at cN1 cN2
                  have hw1 : IntKind.i64.wrap ((k : Int) - 1) = (k : Int) - 1 := IntWalk.i64_in _ ⟨by omega, by omega⟩
                  have hw2 : ((k : Int) - 1).toNat = k - 1 := by omega
                  have hw3 : (0 : Int) ≤ (k : Int) - 1 := by omega
                  have hw4 : (k : Int) - 1 < (xs.length : Int) := by omega
                  have hkz2 : decide (0 < k) = true := decide_eq_true (by omega)
                  have hw5 : (1 : Int) ≤ (k : Int) := by omega
                  have hw6 : (k : Int) ≤ (xs.length : Int) := by omega
                  have hw7 : 1 ≤ k := by omega
                  have hw8 : 0 < k := by omega
                  go_cut [62] (fun v62 wx => v62 = .bool (decide (0 ≤ cv)) ∧ Below w5.heap.size w5 wx)
                  case first =>
                    go_region_held3 (fun w' => w'.cell? ⟨wr.heap.size, 1, none⟩ = some (.int .i64 e.2.1) ∧ w'.cell? ⟨wr.heap.size, 2, none⟩ = some (.slice Bm m d) ∧ w'.cell? ⟨b, o + (k - 1) * 3 + 1, none⟩ = some (.int .i64 p.2.1) ∧ w'.cell? ⟨b, o + (k - 1) * 3 + 2, none⟩ = some (.slice Bp mp dp)) (first | go_keep | exact ⟨keepc Tk cN1, keepc Tk cN2, keepc Tk d1, keepc Tk d2⟩) (first
                      | (go_at_call 54; (with_reducible refine (HC1 _ ?_).mono ?_); (first | exact Tk | exact Below.drew Tk); rintro e' wn ⟨rfl, hbn⟩; replace Tk := below_next (by first | exact Tk | exact Below.drew Tk) hbn rfl))
                    all_goals
                      go_wp2_with fail
                      go_meet
                      exact ⟨rfl, by first | exact Tk | exact Below.drew Tk⟩
                  case rest =>
                    obtain ⟨rfl, hTc⟩ := hcut
                    have T6 := below_next T5 hTc rfl
                    have M6 := M5.next hTc
                    clear cN1 cN2 d1 d2 HC1 Tk hw1 hw2 hw3 hw4 hw5 hw6 hw7 hw8 hkz2
                    by_cases hcv : cv < 0
                    · have hcv' : decide (0 ≤ cv) = false := decide_eq_false (by omega)
                      have HB2 : Hid (befB p.2 e.2 = true) := by show _ = _; rw [HB.out]; exact decide_eq_true hcv
                      go_wp2_with fail
                      go_roundw
                      case rel => exact ⟨k + 1, by omega, by go_num, HH.out.step HD.out HX.out (by rw [HOK.out, HLB.out, HB2.out]; rfl), HSN.out, by rw [HPS.out]; exact M6, T6⟩
                      case measure => simp [intOf]; omega
                    · have hcv' : decide (0 ≤ cv) = true := decide_eq_true (by omega)
                      have HB2 : Hid (befB p.2 e.2 = false) := by show _ = _; rw [HB.out]; exact decide_eq_false hcv
                      go_wp2_with fail
                      go_ret
                      exact ⟨ret_bool (HH.out.stop HD.out (by rw [HOK.out, HLB.out, HB2.out]; rfl)), T6⟩
          · go_wp2_with fail
            rw [← HWB.out]
            go_wp2_with (go_at_call 41; refine (isName_any _ _ hsz).mono ?_; rintro e' w' ⟨rfl, rfl⟩; rw [HR1.out])
            go_ret
            exact ⟨ret_bool (HH.out.stop HD.out (by rw [HOK.out]; rfl)), Tb⟩
      · have hlt' : ¬ (k : Int) < (xs.length : Int) := by omega
        have HH := Lib.hid H
        clear H hS hM
        go_wp2_with fail
        go_ret
        exact ⟨ret_bool (HH.out.done hn hlt), hTw⟩
  · have hn' : (12 : Int) < (xs.length : Int) := by omega
    go_enter Try.func10, Try.ntmps10
    go_wp2_with fail
    go_ret
    exact ⟨ret_bool (catB_big hn), Below.refl _ _⟩
end Go.Proofs.Ytkmgbdljiajlaaa
namespace Go.Proofs.Ytkmgbdljiajlaaa
open Go.RowKit

theorem hasS_step {e : EntryM} {xs : List EntryM} {j : Nat} {f : EntryM} (h : hasS e.1 ((xs.take j).map (·.1)) = false) (hx : xs[j]? = some f) (hne : ¬ f.1 = e.1) : hasS e.1 ((xs.take (j + 1)).map (·.1)) = false := by
  rw [take_snoc hx, List.map_append, List.map_cons, List.map_nil, hasS_snoc, h, eqC_no.2 hne]
  rfl
theorem hasS_hit {e : EntryM} {xs : List EntryM} {j k : Nat} {f : EntryM} (hj : j < k) (hx : xs[j]? = some f) (he : f.1 = e.1) : hasS e.1 ((xs.take k).map (·.1)) = true := by
  rw [hasS_iff, List.mem_map]
  refine ⟨f, List.mem_of_getElem? (i := j) ?_, he⟩
  rw [List.getElem?_take, if_pos hj]
  exact hx
theorem l31Name_is {s : ByteArray} {w : World} {r : Bool} (hr : nameB s = r) (hs : s.size ≤ maxLen) : Calls Try.prog 47 #[.string s] w (Qt w (.bool r)) := hr ▸ quiet_same (l31Name_any s w hs)
set_option linter.unusedSimpArgs false in
set_option maxRecDepth 100000 in
set_option maxHeartbeats 16000000 in
theorem l31Good_any (A : Option Addr) (n c : Nat) (xs : List EntryM) (w : World) (h : RdN shEntry.m shEntry.rd w A n xs) :
    Calls Try.prog 46 #[.slice A n c] w (Bl w (.bool (catB xs))) := by
  obtain rfl : xs.length = n := h.len
  have hle := h.le
  by_cases hn : xs.length ≤ 12
  · have hn' : ¬ (12 : Int) < (xs.length : Int) := by omega
    go_enter Try.func46, Try.ntmps46
    go_wp2_with fail
    go_loopw [3] (fun i wr => ∃ k : Nat, k ≤ xs.length ∧ i = .int .i64 k ∧ CatAt xs k ∧ (∀ e ∈ xs.take k, SmallP e.2) ∧ Below w.heap.size w wr) (fun i _ => xs.length - (intOf i).toNat)
    case atStart => exact ⟨0, Nat.zero_le _, rfl, rfl, (fun e he => by simp at he), Below.refl _ _⟩
    case round =>
      obtain ⟨k, hk, rfl, H, hS, hTw⟩ := hrel
      by_cases hlt : k < xs.length
      · obtain ⟨b, o, vs, e, hA, -, hc, hr, hd, hxe⟩ := h.at hlt
        obtain ⟨Bm, m, d, rfl, hsz, hIn, hops⟩ := rdEntry hr
        have cc0 : wr.cell? ⟨b, o + k * 3, none⟩ = some (.string e.1) := keepc hTw (hc 0 _ rfl)
        have cc1 : wr.cell? ⟨b, o + k * 3 + 1, none⟩ = some (.int .i64 e.2.1) := keepc hTw (hc 1 _ rfl)
        have cc2 : wr.cell? ⟨b, o + k * 3 + 2, none⟩ = some (.slice Bm m d) := keepc hTw (hc 2 _ rfl)
        have hral := mkAlgebra (cOps := d) hIn hops
        have HST := Lib.hid hS
        have HH := Lib.hid H
        have HD := Lib.hid hd
        have HX := Lib.hid hxe
        have hk0 : (0 : Int) ≤ (k : Int) := by omega
        have hk1 : (k : Int) < (xs.length : Int) := by omega
        subst hA
        obtain ⟨pre, HP⟩ : ∃ pre, Hid (xs.take k = pre) := ⟨_, rfl⟩
        have hpl : pre.length = k := by rw [← HP.out, List.length_take]; omega
        have HPL := Lib.hid hpl
        obtain ⟨r1, HR1⟩ : ∃ r, Hid (nameB e.1 = r) := ⟨_, rfl⟩
        obtain ⟨r3, HR3⟩ : ∃ r, Hid (smallB e.2 = r) := ⟨_, rfl⟩
        have HOK : Hid (okE (xs.take k) e = (r1 && (!hasS e.1 ((xs.take k).map (·.1)) && (r3 && (eqC (canA e.2) e.2 && lastB pre e))))) := by show _ = _; rw [HP.out]; unfold okE; rw [HR1.out, HR3.out]
        have HT1 : ∀ wz, Below wr.heap.size wr wz → Calls Try.prog 48 #[.agg #[.int .i64 e.2.1, .slice Bm m d]] wz (Bl wz (.bool r3)) := fun wz hz => by
          have T := below_next hTw hz rfl
          have := l31Takes_any [.int .i64 e.2.1, .slice Bm m d] e.2 wz (shAlgebra.stab hral T.block)
          rw [HR3.out] at this
          exact this
        clear hS H hd hxe hc hr hpl
        have Tk : Below wr.heap.size wr wr := Below.refl _ _
        rcases r1 with _ | _
        · go_upto_region 6 with fail
          go_quiet ((go_at_call 47; exact quiet_one (l31Name_is HR1.out hsz)))
          go_wp2_with fail
          go_ret
          exact ⟨ret_bool (HH.out.stop HD.out (by rw [HOK.out]; rfl)), below_drewN hTw _⟩
        · obtain ⟨q, HQ⟩ : ∃ q, Hid ((r3 && lastB pre e) = q) := ⟨_, rfl⟩
          have HOK2 : Hid (okE (xs.take k) e = (!hasS e.1 ((xs.take k).map (·.1)) && (eqC (canA e.2) e.2 && q))) := by
            show _ = _
            rw [HOK.out, ← HQ.out]
            rcases hasS e.1 ((xs.take k).map (·.1)) <;> rcases r3 <;> rcases eqC (canA e.2) e.2 <;> rcases lastB pre e <;> rfl
          go_upto_region 6 with fail
          go_cut [48] from 8 to 77 (fun v48 wx => v48 = .bool (!q) ∧ Below wr.heap.size wr wx)
          case first =>
            rcases r3 with _ | _
            · obtain rfl : false = q := HQ.out
              refine wp_region_held_drew (S := fun w' => w'.cell? ⟨b, o + k * 3, none⟩ = some (.string e.1) ∧ w'.cell? ⟨b, o + k * 3 + 1, none⟩ = some (.int .i64 e.2.1) ∧ w'.cell? ⟨b, o + k * 3 + 2, none⟩ = some (.slice Bm m d)) (by kernel_rfl) ⟨cc0, cc1, cc2⟩ (fun hHeld0 => ?_)
              refine wpAnyH_take (i := 0) (v := .slice (some ⟨b, o, none⟩) xs.length c) rfl (by kernel_rfl) (by kernel_rfl) (by kernel_rfl) (fun _ _ _ h => h) (Or.inl ⟨by kernel_rfl, fun _ _ => by go_simp⟩) (by assumption) ?_
              (try simp only [Act.put, List.setIfInBounds_toArray, List.set_cons_zero, List.set_cons_succ])
              refine wpAnyH_take (i := 1) (v := .int .i64 (k : Int)) rfl (by kernel_rfl) (by kernel_rfl) (by kernel_rfl) (fun _ _ _ h => h) (Or.inl ⟨by kernel_rfl, fun _ _ => by go_simp⟩) (by assumption) ?_
              (try simp only [Act.put, List.setIfInBounds_toArray, List.set_cons_zero, List.set_cons_succ])
              refine wpAnyH_take (i := 2) (v := .pointer (some ⟨b, o + k * 3, none⟩)) rfl (by kernel_rfl) (by kernel_rfl) (by kernel_rfl) (fun _ _ _ h => h) (Or.inl ⟨by kernel_rfl, fun _ _ => by go_simp⟩) (by assumption) ?_
              (try simp only [Act.put, List.setIfInBounds_toArray, List.set_cons_zero, List.set_cons_succ])
              refine wpAnyH_take (i := 3) (v := .pointer (some ⟨b, o + k * 3, none⟩)) rfl (by kernel_rfl) (by kernel_rfl) (by kernel_rfl) (fun _ _ _ h => h) (Or.inl ⟨by kernel_rfl, fun _ _ => by go_simp⟩) (by assumption) ?_
              (try simp only [Act.put, List.setIfInBounds_toArray, List.set_cons_zero, List.set_cons_succ])
              refine wpAnyH_take (i := 4) (v := .string e.1) rfl (by kernel_rfl) (by kernel_rfl) (by kernel_rfl) (fun _ _ _ h => h) (Or.inl ⟨by kernel_rfl, fun wv hSw => by (obtain ⟨hS0, hS1, hS2⟩ := hSw); go_simp⟩) (by assumption) ?_
              (try simp only [Act.put, List.setIfInBounds_toArray, List.set_cons_zero, List.set_cons_succ])
              refine wpAnyH_ready (rs := [5]) (by kernel_rfl) (by simp) ?_
              refine AllReadyH.cons rfl (fun K hK => ?_) AllReadyH.nil
              go_simp
              refine (l31Name_any _ _ hsz).mono ?_
              rintro e' wn ⟨rfl, rfl⟩
              rw [HR1.out]
              replace Tk := Below.drew Tk
              go_wp2_with fail
              refine hK.out _ _ ⟨keepc Tk cc0, keepc Tk cc1, keepc Tk cc2⟩ (fun hHeld1 => ?_)
              clear hK K hHeld0
              (try simp only [Act.put, List.setIfInBounds_toArray, List.set_cons_zero, List.set_cons_succ])
              refine wpAnyH_take (i := 6) (v := .bool false) rfl (by kernel_rfl) (by kernel_rfl) (by kernel_rfl) (fun _ _ _ h => h) (Or.inl ⟨by kernel_rfl, fun _ _ => by go_simp⟩) (by assumption) ?_
              (try simp only [Act.put, List.setIfInBounds_toArray, List.set_cons_zero, List.set_cons_succ])
              refine wpAnyH_take (i := 7) (v := .bool false) rfl (by kernel_rfl) (by kernel_rfl) (by kernel_rfl) (fun _ _ _ h => h) (Or.inl ⟨by kernel_rfl, fun _ _ => by go_simp⟩) (by assumption) ?_
              (try simp only [Act.put, List.setIfInBounds_toArray, List.set_cons_zero, List.set_cons_succ])
              refine wpAnyH_take (i := 8) (v := .slice (some ⟨b, o, none⟩) xs.length c) rfl (by kernel_rfl) (by kernel_rfl) (by kernel_rfl) (fun _ _ _ h => h) (Or.inl ⟨by kernel_rfl, fun _ _ => by go_simp⟩) (by assumption) ?_
              (try simp only [Act.put, List.setIfInBounds_toArray, List.set_cons_zero, List.set_cons_succ])
              refine wpAnyH_take (i := 9) (v := .int .i64 (k : Int)) rfl (by kernel_rfl) (by kernel_rfl) (by kernel_rfl) (fun _ _ _ h => h) (Or.inl ⟨by kernel_rfl, fun _ _ => by go_simp⟩) (by assumption) ?_
              (try simp only [Act.put, List.setIfInBounds_toArray, List.set_cons_zero, List.set_cons_succ])
              refine wpAnyH_take (i := 10) (v := .pointer (some ⟨b, o + k * 3, none⟩)) rfl (by kernel_rfl) (by kernel_rfl) (by kernel_rfl) (fun _ _ _ h => h) (Or.inl ⟨by kernel_rfl, fun _ _ => by go_simp⟩) (by assumption) ?_
              (try simp only [Act.put, List.setIfInBounds_toArray, List.set_cons_zero, List.set_cons_succ])
              refine wpAnyH_take (i := 11) (v := .pointer (some ⟨b, o + k * 3 + 1, none⟩)) rfl (by kernel_rfl) (by kernel_rfl) (by kernel_rfl) (fun _ _ _ h => h) (Or.inl ⟨by kernel_rfl, fun _ _ => by go_simp⟩) (by assumption) ?_
              (try simp only [Act.put, List.setIfInBounds_toArray, List.set_cons_zero, List.set_cons_succ])
              refine wpAnyH_take (i := 12) (v := .agg #[.int .i64 e.2.1, .slice Bm m d]) rfl (by kernel_rfl) (by kernel_rfl) (by kernel_rfl) (fun _ _ _ h => h) (Or.inl ⟨by kernel_rfl, fun wv hSw => by (obtain ⟨hS0, hS1, hS2⟩ := hSw); go_simp⟩) (by assumption) ?_
              (try simp only [Act.put, List.setIfInBounds_toArray, List.set_cons_zero, List.set_cons_succ])
              refine wpAnyH_ready (rs := [13]) (by kernel_rfl) (by simp) ?_
              refine AllReadyH.cons rfl (fun K hK => ?_) AllReadyH.nil
              go_simp
              refine (HT1 _ Tk).mono ?_
              rintro e' wn ⟨rfl, hbn⟩
              replace Tk := below_next Tk hbn rfl
              go_wp2_with fail
              refine hK.out _ _ ⟨keepc Tk cc0, keepc Tk cc1, keepc Tk cc2⟩ (fun hHeld2 => ?_)
              clear hK K hHeld1
              (try simp only [Act.put, List.setIfInBounds_toArray, List.set_cons_zero, List.set_cons_succ])
              refine wpAnyH_take (i := 14) (v := .bool true) rfl (by kernel_rfl) (by kernel_rfl) (by kernel_rfl) (fun _ _ _ h => h) (Or.inl ⟨by kernel_rfl, fun _ _ => by go_simp⟩) (by assumption) ?_
              (try simp only [Act.put, List.setIfInBounds_toArray, List.set_cons_zero, List.set_cons_succ])
              refine wpAnyH_take (i := 15) (v := .bool true) rfl (by kernel_rfl) (by kernel_rfl) (by kernel_rfl) (fun _ _ _ h => h) (Or.inl ⟨by kernel_rfl, fun _ _ => by go_simp⟩) (by assumption) ?_
              (try simp only [Act.put, List.setIfInBounds_toArray, List.set_cons_zero, List.set_cons_succ])
              refine wpAnyH_take (i := 16) (v := .bool true) rfl (by kernel_rfl) (by kernel_rfl) (by kernel_rfl) (fun _ _ _ h => h) (Or.inl ⟨by kernel_rfl, fun _ _ => by go_simp⟩) (by assumption) ?_
              (try simp only [Act.put, List.setIfInBounds_toArray, List.set_cons_zero, List.set_cons_succ])
              refine wpAnyH_take (i := 17) (v := undef) rfl (by kernel_rfl) (by kernel_rfl) (by kernel_rfl) (fun _ _ _ h => h) (Or.inr ⟨by kernel_rfl, rfl⟩) (by assumption) ?_
              (try simp only [Act.put, List.setIfInBounds_toArray, List.set_cons_zero, List.set_cons_succ])
              refine wpAnyH_take (i := 18) (v := undef) rfl (by kernel_rfl) (by kernel_rfl) (by kernel_rfl) (fun _ _ _ h => h) (Or.inr ⟨by kernel_rfl, rfl⟩) (by assumption) ?_
              (try simp only [Act.put, List.setIfInBounds_toArray, List.set_cons_zero, List.set_cons_succ])
              refine wpAnyH_take (i := 19) (v := undef) rfl (by kernel_rfl) (by kernel_rfl) (by kernel_rfl) (fun _ _ _ h => h) (Or.inr ⟨by kernel_rfl, rfl⟩) (by assumption) ?_
              (try simp only [Act.put, List.setIfInBounds_toArray, List.set_cons_zero, List.set_cons_succ])
              refine wpAnyH_take (i := 20) (v := undef) rfl (by kernel_rfl) (by kernel_rfl) (by kernel_rfl) (fun _ _ _ h => h) (Or.inr ⟨by kernel_rfl, rfl⟩) (by assumption) ?_
              (try simp only [Act.put, List.setIfInBounds_toArray, List.set_cons_zero, List.set_cons_succ])
              refine wpAnyH_take (i := 21) (v := undef) rfl (by kernel_rfl) (by kernel_rfl) (by kernel_rfl) (fun _ _ _ h => h) (Or.inr ⟨by kernel_rfl, rfl⟩) (by assumption) ?_
              (try simp only [Act.put, List.setIfInBounds_toArray, List.set_cons_zero, List.set_cons_succ])
              refine wpAnyH_take (i := 22) (v := undef) rfl (by kernel_rfl) (by kernel_rfl) (by kernel_rfl) (fun _ _ _ h => h) (Or.inr ⟨by kernel_rfl, rfl⟩) (by assumption) ?_
              (try simp only [Act.put, List.setIfInBounds_toArray, List.set_cons_zero, List.set_cons_succ])
              refine wpAnyH_take (i := 23) (v := undef) rfl (by kernel_rfl) (by kernel_rfl) (by kernel_rfl) (fun _ _ _ h => h) (Or.inr ⟨by kernel_rfl, rfl⟩) (by assumption) ?_
              (try simp only [Act.put, List.setIfInBounds_toArray, List.set_cons_zero, List.set_cons_succ])
              refine wpAnyH_take (i := 24) (v := undef) rfl (by kernel_rfl) (by kernel_rfl) (by kernel_rfl) (fun _ _ _ h => h) (Or.inr ⟨by kernel_rfl, rfl⟩) (by assumption) ?_
              (try simp only [Act.put, List.setIfInBounds_toArray, List.set_cons_zero, List.set_cons_succ])
              refine wpAnyH_take (i := 25) (v := undef) rfl (by kernel_rfl) (by kernel_rfl) (by kernel_rfl) (fun _ _ _ h => h) (Or.inr ⟨by kernel_rfl, rfl⟩) (by assumption) ?_
              (try simp only [Act.put, List.setIfInBounds_toArray, List.set_cons_zero, List.set_cons_succ])
              refine wpAnyH_take (i := 26) (v := undef) rfl (by kernel_rfl) (by kernel_rfl) (by kernel_rfl) (fun _ _ _ h => h) (Or.inr ⟨by kernel_rfl, rfl⟩) (by assumption) ?_
              (try simp only [Act.put, List.setIfInBounds_toArray, List.set_cons_zero, List.set_cons_succ])
              refine wpAnyH_take (i := 27) (v := undef) rfl (by kernel_rfl) (by kernel_rfl) (by kernel_rfl) (fun _ _ _ h => h) (Or.inr ⟨by kernel_rfl, rfl⟩) (by assumption) ?_
              (try simp only [Act.put, List.setIfInBounds_toArray, List.set_cons_zero, List.set_cons_succ])
              refine wpAnyH_take (i := 28) (v := undef) rfl (by kernel_rfl) (by kernel_rfl) (by kernel_rfl) (fun _ _ _ h => h) (Or.inr ⟨by kernel_rfl, rfl⟩) (by assumption) ?_
              (try simp only [Act.put, List.setIfInBounds_toArray, List.set_cons_zero, List.set_cons_succ])
              refine wpAnyH_take (i := 29) (v := undef) rfl (by kernel_rfl) (by kernel_rfl) (by kernel_rfl) (fun _ _ _ h => h) (Or.inr ⟨by kernel_rfl, rfl⟩) (by assumption) ?_
              (try simp only [Act.put, List.setIfInBounds_toArray, List.set_cons_zero, List.set_cons_succ])
              refine wpAnyH_take (i := 30) (v := undef) rfl (by kernel_rfl) (by kernel_rfl) (by kernel_rfl) (fun _ _ _ h => h) (Or.inr ⟨by kernel_rfl, rfl⟩) (by assumption) ?_
              (try simp only [Act.put, List.setIfInBounds_toArray, List.set_cons_zero, List.set_cons_succ])
              refine wpAnyH_take (i := 31) (v := undef) rfl (by kernel_rfl) (by kernel_rfl) (by kernel_rfl) (fun _ _ _ h => h) (Or.inr ⟨by kernel_rfl, rfl⟩) (by assumption) ?_
              (try simp only [Act.put, List.setIfInBounds_toArray, List.set_cons_zero, List.set_cons_succ])
              refine wpAnyH_take (i := 32) (v := undef) rfl (by kernel_rfl) (by kernel_rfl) (by kernel_rfl) (fun _ _ _ h => h) (Or.inr ⟨by kernel_rfl, rfl⟩) (by assumption) ?_
              (try simp only [Act.put, List.setIfInBounds_toArray, List.set_cons_zero, List.set_cons_succ])
              refine wpAnyH_take (i := 33) (v := undef) rfl (by kernel_rfl) (by kernel_rfl) (by kernel_rfl) (fun _ _ _ h => h) (Or.inr ⟨by kernel_rfl, rfl⟩) (by assumption) ?_
              (try simp only [Act.put, List.getElem_toArray, List.getElem_cons_zero, List.getElem_cons_succ, List.setIfInBounds_toArray, List.set_cons_zero, List.set_cons_succ])
              refine wpAnyH_take (i := 34) (v := .bool true) rfl (by kernel_rfl) (by kernel_rfl) (by kernel_rfl) (fun _ _ _ h => h) (Or.inl ⟨by kernel_rfl, fun _ _ => by go_simp⟩) (by assumption) ?_
              (try simp only [Act.put, List.getElem_toArray, List.getElem_cons_zero, List.getElem_cons_succ, List.setIfInBounds_toArray, List.set_cons_zero, List.set_cons_succ])
              refine wpAnyH_done (by kernel_rfl) ?_ _
              all_goals
                go_wp2_with fail
                go_meet
                exact ⟨rfl, by first | exact Tk | exact Below.drew Tk⟩
            · have hsm := small_iff.1 HR3.out
              by_cases hk00 : k = 0
              · have HLB : Hid (true = q) := by
                  show _ = _
                  have : pre = [] := List.eq_nil_of_length_eq_zero (by rw [HPL.out]; exact hk00)
                  have h2 := HQ.out
                  rw [this] at h2
                  exact h2
                have hq : (!q) = false := by rw [← HLB.out]; rfl
                have HQ3 := Lib.hid hq
                have hkz2 : decide (0 < k) = false := decide_eq_false (by omega)
                clear hk00 hq
                refine wp_region_held_drew (S := fun w' => w'.cell? ⟨b, o + k * 3, none⟩ = some (.string e.1) ∧ w'.cell? ⟨b, o + k * 3 + 1, none⟩ = some (.int .i64 e.2.1) ∧ w'.cell? ⟨b, o + k * 3 + 2, none⟩ = some (.slice Bm m d)) (by kernel_rfl) ⟨cc0, cc1, cc2⟩ (fun hHeld0 => ?_)
                refine wpAnyH_take (i := 0) (v := .slice (some ⟨b, o, none⟩) xs.length c) rfl (by kernel_rfl) (by kernel_rfl) (by kernel_rfl) (fun _ _ _ h => h) (Or.inl ⟨by kernel_rfl, fun _ _ => by go_simp⟩) (by assumption) ?_
                (try simp only [Act.put, List.setIfInBounds_toArray, List.set_cons_zero, List.set_cons_succ])
                refine wpAnyH_take (i := 1) (v := .int .i64 (k : Int)) rfl (by kernel_rfl) (by kernel_rfl) (by kernel_rfl) (fun _ _ _ h => h) (Or.inl ⟨by kernel_rfl, fun _ _ => by go_simp⟩) (by assumption) ?_
                (try simp only [Act.put, List.setIfInBounds_toArray, List.set_cons_zero, List.set_cons_succ])
                refine wpAnyH_take (i := 2) (v := .pointer (some ⟨b, o + k * 3, none⟩)) rfl (by kernel_rfl) (by kernel_rfl) (by kernel_rfl) (fun _ _ _ h => h) (Or.inl ⟨by kernel_rfl, fun _ _ => by go_simp⟩) (by assumption) ?_
                (try simp only [Act.put, List.setIfInBounds_toArray, List.set_cons_zero, List.set_cons_succ])
                refine wpAnyH_take (i := 3) (v := .pointer (some ⟨b, o + k * 3, none⟩)) rfl (by kernel_rfl) (by kernel_rfl) (by kernel_rfl) (fun _ _ _ h => h) (Or.inl ⟨by kernel_rfl, fun _ _ => by go_simp⟩) (by assumption) ?_
                (try simp only [Act.put, List.setIfInBounds_toArray, List.set_cons_zero, List.set_cons_succ])
                refine wpAnyH_take (i := 4) (v := .string e.1) rfl (by kernel_rfl) (by kernel_rfl) (by kernel_rfl) (fun _ _ _ h => h) (Or.inl ⟨by kernel_rfl, fun wv hSw => by (obtain ⟨hS0, hS1, hS2⟩ := hSw); go_simp⟩) (by assumption) ?_
                (try simp only [Act.put, List.setIfInBounds_toArray, List.set_cons_zero, List.set_cons_succ])
                refine wpAnyH_ready (rs := [5]) (by kernel_rfl) (by simp) ?_
                refine AllReadyH.cons rfl (fun K hK => ?_) AllReadyH.nil
                go_simp
                refine (l31Name_any _ _ hsz).mono ?_
                rintro e' wn ⟨rfl, rfl⟩
                rw [HR1.out]
                replace Tk := Below.drew Tk
                go_wp2_with fail
                refine hK.out _ _ ⟨keepc Tk cc0, keepc Tk cc1, keepc Tk cc2⟩ (fun hHeld1 => ?_)
                clear hK K hHeld0
                (try simp only [Act.put, List.setIfInBounds_toArray, List.set_cons_zero, List.set_cons_succ])
                refine wpAnyH_take (i := 6) (v := .bool false) rfl (by kernel_rfl) (by kernel_rfl) (by kernel_rfl) (fun _ _ _ h => h) (Or.inl ⟨by kernel_rfl, fun _ _ => by go_simp⟩) (by assumption) ?_
                (try simp only [Act.put, List.setIfInBounds_toArray, List.set_cons_zero, List.set_cons_succ])
                refine wpAnyH_take (i := 7) (v := .bool false) rfl (by kernel_rfl) (by kernel_rfl) (by kernel_rfl) (fun _ _ _ h => h) (Or.inl ⟨by kernel_rfl, fun _ _ => by go_simp⟩) (by assumption) ?_
                (try simp only [Act.put, List.setIfInBounds_toArray, List.set_cons_zero, List.set_cons_succ])
                refine wpAnyH_take (i := 8) (v := .slice (some ⟨b, o, none⟩) xs.length c) rfl (by kernel_rfl) (by kernel_rfl) (by kernel_rfl) (fun _ _ _ h => h) (Or.inl ⟨by kernel_rfl, fun _ _ => by go_simp⟩) (by assumption) ?_
                (try simp only [Act.put, List.setIfInBounds_toArray, List.set_cons_zero, List.set_cons_succ])
                refine wpAnyH_take (i := 9) (v := .int .i64 (k : Int)) rfl (by kernel_rfl) (by kernel_rfl) (by kernel_rfl) (fun _ _ _ h => h) (Or.inl ⟨by kernel_rfl, fun _ _ => by go_simp⟩) (by assumption) ?_
                (try simp only [Act.put, List.setIfInBounds_toArray, List.set_cons_zero, List.set_cons_succ])
                refine wpAnyH_take (i := 10) (v := .pointer (some ⟨b, o + k * 3, none⟩)) rfl (by kernel_rfl) (by kernel_rfl) (by kernel_rfl) (fun _ _ _ h => h) (Or.inl ⟨by kernel_rfl, fun _ _ => by go_simp⟩) (by assumption) ?_
                (try simp only [Act.put, List.setIfInBounds_toArray, List.set_cons_zero, List.set_cons_succ])
                refine wpAnyH_take (i := 11) (v := .pointer (some ⟨b, o + k * 3 + 1, none⟩)) rfl (by kernel_rfl) (by kernel_rfl) (by kernel_rfl) (fun _ _ _ h => h) (Or.inl ⟨by kernel_rfl, fun _ _ => by go_simp⟩) (by assumption) ?_
                (try simp only [Act.put, List.setIfInBounds_toArray, List.set_cons_zero, List.set_cons_succ])
                refine wpAnyH_take (i := 12) (v := .agg #[.int .i64 e.2.1, .slice Bm m d]) rfl (by kernel_rfl) (by kernel_rfl) (by kernel_rfl) (fun _ _ _ h => h) (Or.inl ⟨by kernel_rfl, fun wv hSw => by (obtain ⟨hS0, hS1, hS2⟩ := hSw); go_simp⟩) (by assumption) ?_
                (try simp only [Act.put, List.setIfInBounds_toArray, List.set_cons_zero, List.set_cons_succ])
                refine wpAnyH_ready (rs := [13]) (by kernel_rfl) (by simp) ?_
                refine AllReadyH.cons rfl (fun K hK => ?_) AllReadyH.nil
                go_simp
                refine (HT1 _ Tk).mono ?_
                rintro e' wn ⟨rfl, hbn⟩
                replace Tk := below_next Tk hbn rfl
                go_wp2_with fail
                refine hK.out _ _ ⟨keepc Tk cc0, keepc Tk cc1, keepc Tk cc2⟩ (fun hHeld2 => ?_)
                clear hK K hHeld1
                (try simp only [Act.put, List.setIfInBounds_toArray, List.set_cons_zero, List.set_cons_succ])
                refine wpAnyH_take (i := 14) (v := .bool false) rfl (by kernel_rfl) (by kernel_rfl) (by kernel_rfl) (fun _ _ _ h => h) (Or.inl ⟨by kernel_rfl, fun _ _ => by go_simp⟩) (by assumption) ?_
                (try simp only [Act.put, List.setIfInBounds_toArray, List.set_cons_zero, List.set_cons_succ])
                refine wpAnyH_take (i := 15) (v := .bool false) rfl (by kernel_rfl) (by kernel_rfl) (by kernel_rfl) (fun _ _ _ h => h) (Or.inl ⟨by kernel_rfl, fun _ _ => by go_simp⟩) (by assumption) ?_
                (try simp only [Act.put, List.setIfInBounds_toArray, List.set_cons_zero, List.set_cons_succ])
                refine wpAnyH_take (i := 16) (v := .bool false) rfl (by kernel_rfl) (by kernel_rfl) (by kernel_rfl) (fun _ _ _ h => h) (Or.inl ⟨by kernel_rfl, fun _ _ => by go_simp⟩) (by assumption) ?_
                (try simp only [Act.put, List.setIfInBounds_toArray, List.set_cons_zero, List.set_cons_succ])
                refine wpAnyH_take (i := 17) (v := .int .i64 (k : Int)) rfl (by kernel_rfl) (by kernel_rfl) (by kernel_rfl) (fun _ _ _ h => h) (Or.inl ⟨by kernel_rfl, fun _ _ => by go_simp⟩) (by assumption) ?_
                (try simp only [Act.put, List.setIfInBounds_toArray, List.set_cons_zero, List.set_cons_succ])
                refine wpAnyH_take (i := 18) (v := .bool false) rfl (by kernel_rfl) (by kernel_rfl) (by kernel_rfl) (fun _ _ _ h => h) (Or.inl ⟨by kernel_rfl, fun _ _ => by go_simp⟩) (by assumption) ?_
                (try simp only [Act.put, List.setIfInBounds_toArray, List.set_cons_zero, List.set_cons_succ])
                refine wpAnyH_take (i := 19) (v := .bool false) rfl (by kernel_rfl) (by kernel_rfl) (by kernel_rfl) (fun _ _ _ h => h) (Or.inl ⟨by kernel_rfl, fun _ _ => by go_simp⟩) (by assumption) ?_
                (try simp only [Act.put, List.setIfInBounds_toArray, List.set_cons_zero, List.set_cons_succ])
                refine wpAnyH_take (i := 20) (v := undef) rfl (by kernel_rfl) (by kernel_rfl) (by kernel_rfl) (fun _ _ _ h => h) (Or.inr ⟨by kernel_rfl, rfl⟩) (by assumption) ?_
                (try simp only [Act.put, List.setIfInBounds_toArray, List.set_cons_zero, List.set_cons_succ])
                refine wpAnyH_take (i := 21) (v := undef) rfl (by kernel_rfl) (by kernel_rfl) (by kernel_rfl) (fun _ _ _ h => h) (Or.inr ⟨by kernel_rfl, rfl⟩) (by assumption) ?_
                (try simp only [Act.put, List.setIfInBounds_toArray, List.set_cons_zero, List.set_cons_succ])
                refine wpAnyH_take (i := 22) (v := undef) rfl (by kernel_rfl) (by kernel_rfl) (by kernel_rfl) (fun _ _ _ h => h) (Or.inr ⟨by kernel_rfl, rfl⟩) (by assumption) ?_
                (try simp only [Act.put, List.setIfInBounds_toArray, List.set_cons_zero, List.set_cons_succ])
                refine wpAnyH_take (i := 23) (v := undef) rfl (by kernel_rfl) (by kernel_rfl) (by kernel_rfl) (fun _ _ _ h => h) (Or.inr ⟨by kernel_rfl, rfl⟩) (by assumption) ?_
                (try simp only [Act.put, List.setIfInBounds_toArray, List.set_cons_zero, List.set_cons_succ])
                refine wpAnyH_take (i := 24) (v := undef) rfl (by kernel_rfl) (by kernel_rfl) (by kernel_rfl) (fun _ _ _ h => h) (Or.inr ⟨by kernel_rfl, rfl⟩) (by assumption) ?_
                (try simp only [Act.put, List.setIfInBounds_toArray, List.set_cons_zero, List.set_cons_succ])
                refine wpAnyH_take (i := 25) (v := undef) rfl (by kernel_rfl) (by kernel_rfl) (by kernel_rfl) (fun _ _ _ h => h) (Or.inr ⟨by kernel_rfl, rfl⟩) (by assumption) ?_
                (try simp only [Act.put, List.setIfInBounds_toArray, List.set_cons_zero, List.set_cons_succ])
                refine wpAnyH_take (i := 26) (v := undef) rfl (by kernel_rfl) (by kernel_rfl) (by kernel_rfl) (fun _ _ _ h => h) (Or.inr ⟨by kernel_rfl, rfl⟩) (by assumption) ?_
                (try simp only [Act.put, List.setIfInBounds_toArray, List.set_cons_zero, List.set_cons_succ])
                refine wpAnyH_take (i := 27) (v := undef) rfl (by kernel_rfl) (by kernel_rfl) (by kernel_rfl) (fun _ _ _ h => h) (Or.inr ⟨by kernel_rfl, rfl⟩) (by assumption) ?_
                (try simp only [Act.put, List.setIfInBounds_toArray, List.set_cons_zero, List.set_cons_succ])
                refine wpAnyH_take (i := 28) (v := undef) rfl (by kernel_rfl) (by kernel_rfl) (by kernel_rfl) (fun _ _ _ h => h) (Or.inr ⟨by kernel_rfl, rfl⟩) (by assumption) ?_
                (try simp only [Act.put, List.setIfInBounds_toArray, List.set_cons_zero, List.set_cons_succ])
                refine wpAnyH_take (i := 29) (v := undef) rfl (by kernel_rfl) (by kernel_rfl) (by kernel_rfl) (fun _ _ _ h => h) (Or.inr ⟨by kernel_rfl, rfl⟩) (by assumption) ?_
                (try simp only [Act.put, List.setIfInBounds_toArray, List.set_cons_zero, List.set_cons_succ])
                refine wpAnyH_take (i := 30) (v := undef) rfl (by kernel_rfl) (by kernel_rfl) (by kernel_rfl) (fun _ _ _ h => h) (Or.inr ⟨by kernel_rfl, rfl⟩) (by assumption) ?_
                (try simp only [Act.put, List.setIfInBounds_toArray, List.set_cons_zero, List.set_cons_succ])
                refine wpAnyH_take (i := 31) (v := undef) rfl (by kernel_rfl) (by kernel_rfl) (by kernel_rfl) (fun _ _ _ h => h) (Or.inr ⟨by kernel_rfl, rfl⟩) (by assumption) ?_
                (try simp only [Act.put, List.setIfInBounds_toArray, List.set_cons_zero, List.set_cons_succ])
                refine wpAnyH_take (i := 32) (v := undef) rfl (by kernel_rfl) (by kernel_rfl) (by kernel_rfl) (fun _ _ _ h => h) (Or.inr ⟨by kernel_rfl, rfl⟩) (by assumption) ?_
                (try simp only [Act.put, List.setIfInBounds_toArray, List.set_cons_zero, List.set_cons_succ])
                refine wpAnyH_take (i := 33) (v := .bool false) rfl (by kernel_rfl) (by kernel_rfl) (by kernel_rfl) (fun _ _ _ h => h) (Or.inl ⟨by kernel_rfl, fun _ _ => by go_simp⟩) (by assumption) ?_
                (try simp only [Act.put, List.getElem_toArray, List.getElem_cons_zero, List.getElem_cons_succ, List.setIfInBounds_toArray, List.set_cons_zero, List.set_cons_succ])
                refine wpAnyH_take (i := 34) (v := .bool false) rfl (by kernel_rfl) (by kernel_rfl) (by kernel_rfl) (fun _ _ _ h => h) (Or.inl ⟨by kernel_rfl, fun _ _ => by go_simp⟩) (by assumption) ?_
                (try simp only [Act.put, List.getElem_toArray, List.getElem_cons_zero, List.getElem_cons_succ, List.setIfInBounds_toArray, List.set_cons_zero, List.set_cons_succ])
                refine wpAnyH_done (by kernel_rfl) ?_ _
                all_goals
                  go_wp2_with fail
                  go_meet
                  exact ⟨by rw [HQ3.out], by first | exact Tk | exact Below.drew Tk⟩
              · obtain ⟨b', o', vs', p, hA', -, hc', hr', -, hxp⟩ := h.at (k := k - 1) (by omega)
                have hA2 := hA'
                simp only [Option.some.injEq, Addr.mk.injEq, and_true] at hA2
                obtain ⟨rfl, rfl⟩ := hA2
                obtain ⟨Bp, mp, dp, rfl, -, hIp, hops'⟩ := rdEntry hr'
                have hpm : p ∈ xs.take k := by
                  have : (xs.take k)[k - 1]? = some p := by rw [List.getElem?_take, if_pos (by omega)]; exact hxp
                  exact List.mem_of_getElem? this
                have hsp := HST.out p hpm
                have HLB : Hid (befB p.2 e.2 = q) := by
                  show _ = _
                  rw [← HQ.out]
                  unfold lastB
                  rw [← HP.out, List.getLast?_take, if_neg hk00, hxp]
                  rfl
                have hral' := mkAlgebra (cOps := dp) hIp hops'
                have d1 : wr.cell? ⟨b, o + (k - 1) * 3 + 1, none⟩ = some (.int .i64 p.2.1) := keepc hTw (hc' 1 _ rfl)
                have d2 : wr.cell? ⟨b, o + (k - 1) * 3 + 2, none⟩ = some (.slice Bp mp dp) := keepc hTw (hc' 2 _ rfl)
                have HC1 : ∀ wz, Below wr.heap.size wr wz → Calls Try.prog 88 #[.agg #[.int .i64 p.2.1, .slice Bp mp dp], .agg #[.int .i64 e.2.1, .slice Bm m d]] wz (Bl wz (.bool q)) := fun wz hz => by
                  have T := below_next hTw hz rfl
                  have := l31Before_any [.int .i64 p.2.1, .slice Bp mp dp] [.int .i64 e.2.1, .slice Bm m d] p.2 e.2 wz (shAlgebra.stab hral' T.block) (shAlgebra.stab hral T.block) hsp hsm
                  rw [HLB.out] at this
                  exact this
                clear hA' hc' hr' hxp hpm hops' hops hIp
                have hw1 : IntKind.i64.wrap ((k : Int) - 1) = (k : Int) - 1 := IntWalk.i64_in _ ⟨by omega, by omega⟩
                have hw3 : (0 : Int) ≤ (k : Int) - 1 := by omega
                have hw4 : (k : Int) - 1 < (xs.length : Int) := by omega
                have hkz2 : decide (0 < k) = true := decide_eq_true (by omega)
                have hw5 : (1 : Int) ≤ (k : Int) := by omega
                have hw6 : (k : Int) ≤ (xs.length : Int) := by omega
                have hw7 : 1 ≤ k := by omega
                have hw8 : 0 < k := by omega
                clear hk00
                refine wp_region_held_drew (S := fun w' => w'.cell? ⟨b, o + k * 3, none⟩ = some (.string e.1) ∧ w'.cell? ⟨b, o + k * 3 + 1, none⟩ = some (.int .i64 e.2.1) ∧ w'.cell? ⟨b, o + k * 3 + 2, none⟩ = some (.slice Bm m d) ∧ w'.cell? ⟨b, o + (k - 1) * 3 + 1, none⟩ = some (.int .i64 p.2.1) ∧ w'.cell? ⟨b, o + (k - 1) * 3 + 2, none⟩ = some (.slice Bp mp dp)) (by kernel_rfl) ⟨cc0, cc1, cc2, d1, d2⟩ (fun hHeld0 => ?_)
                refine wpAnyH_take (i := 0) (v := .slice (some ⟨b, o, none⟩) xs.length c) rfl (by kernel_rfl) (by kernel_rfl) (by kernel_rfl) (fun _ _ _ h => h) (Or.inl ⟨by kernel_rfl, fun _ _ => by go_simp⟩) (by assumption) ?_
                (try simp only [Act.put, List.setIfInBounds_toArray, List.set_cons_zero, List.set_cons_succ])
                refine wpAnyH_take (i := 1) (v := .int .i64 (k : Int)) rfl (by kernel_rfl) (by kernel_rfl) (by kernel_rfl) (fun _ _ _ h => h) (Or.inl ⟨by kernel_rfl, fun _ _ => by go_simp⟩) (by assumption) ?_
                (try simp only [Act.put, List.setIfInBounds_toArray, List.set_cons_zero, List.set_cons_succ])
                refine wpAnyH_take (i := 2) (v := .pointer (some ⟨b, o + k * 3, none⟩)) rfl (by kernel_rfl) (by kernel_rfl) (by kernel_rfl) (fun _ _ _ h => h) (Or.inl ⟨by kernel_rfl, fun _ _ => by go_simp⟩) (by assumption) ?_
                (try simp only [Act.put, List.setIfInBounds_toArray, List.set_cons_zero, List.set_cons_succ])
                refine wpAnyH_take (i := 3) (v := .pointer (some ⟨b, o + k * 3, none⟩)) rfl (by kernel_rfl) (by kernel_rfl) (by kernel_rfl) (fun _ _ _ h => h) (Or.inl ⟨by kernel_rfl, fun _ _ => by go_simp⟩) (by assumption) ?_
                (try simp only [Act.put, List.setIfInBounds_toArray, List.set_cons_zero, List.set_cons_succ])
                refine wpAnyH_take (i := 4) (v := .string e.1) rfl (by kernel_rfl) (by kernel_rfl) (by kernel_rfl) (fun _ _ _ h => h) (Or.inl ⟨by kernel_rfl, fun wv hSw => by (obtain ⟨hS0, hS1, hS2, hS3, hS4⟩ := hSw); go_simp⟩) (by assumption) ?_
                (try simp only [Act.put, List.setIfInBounds_toArray, List.set_cons_zero, List.set_cons_succ])
                refine wpAnyH_ready (rs := [5]) (by kernel_rfl) (by simp) ?_
                refine AllReadyH.cons rfl (fun K hK => ?_) AllReadyH.nil
                go_simp
                refine (l31Name_any _ _ hsz).mono ?_
                rintro e' wn ⟨rfl, rfl⟩
                rw [HR1.out]
                replace Tk := Below.drew Tk
                go_wp2_with fail
                refine hK.out _ _ ⟨keepc Tk cc0, keepc Tk cc1, keepc Tk cc2, keepc Tk d1, keepc Tk d2⟩ (fun hHeld1 => ?_)
                clear hK K hHeld0
                (try simp only [Act.put, List.setIfInBounds_toArray, List.set_cons_zero, List.set_cons_succ])
                refine wpAnyH_take (i := 6) (v := .bool false) rfl (by kernel_rfl) (by kernel_rfl) (by kernel_rfl) (fun _ _ _ h => h) (Or.inl ⟨by kernel_rfl, fun _ _ => by go_simp⟩) (by assumption) ?_
                (try simp only [Act.put, List.setIfInBounds_toArray, List.set_cons_zero, List.set_cons_succ])
                refine wpAnyH_take (i := 7) (v := .bool false) rfl (by kernel_rfl) (by kernel_rfl) (by kernel_rfl) (fun _ _ _ h => h) (Or.inl ⟨by kernel_rfl, fun _ _ => by go_simp⟩) (by assumption) ?_
                (try simp only [Act.put, List.setIfInBounds_toArray, List.set_cons_zero, List.set_cons_succ])
                refine wpAnyH_take (i := 8) (v := .slice (some ⟨b, o, none⟩) xs.length c) rfl (by kernel_rfl) (by kernel_rfl) (by kernel_rfl) (fun _ _ _ h => h) (Or.inl ⟨by kernel_rfl, fun _ _ => by go_simp⟩) (by assumption) ?_
                (try simp only [Act.put, List.setIfInBounds_toArray, List.set_cons_zero, List.set_cons_succ])
                refine wpAnyH_take (i := 9) (v := .int .i64 (k : Int)) rfl (by kernel_rfl) (by kernel_rfl) (by kernel_rfl) (fun _ _ _ h => h) (Or.inl ⟨by kernel_rfl, fun _ _ => by go_simp⟩) (by assumption) ?_
                (try simp only [Act.put, List.setIfInBounds_toArray, List.set_cons_zero, List.set_cons_succ])
                refine wpAnyH_take (i := 10) (v := .pointer (some ⟨b, o + k * 3, none⟩)) rfl (by kernel_rfl) (by kernel_rfl) (by kernel_rfl) (fun _ _ _ h => h) (Or.inl ⟨by kernel_rfl, fun _ _ => by go_simp⟩) (by assumption) ?_
                (try simp only [Act.put, List.setIfInBounds_toArray, List.set_cons_zero, List.set_cons_succ])
                refine wpAnyH_take (i := 11) (v := .pointer (some ⟨b, o + k * 3 + 1, none⟩)) rfl (by kernel_rfl) (by kernel_rfl) (by kernel_rfl) (fun _ _ _ h => h) (Or.inl ⟨by kernel_rfl, fun _ _ => by go_simp⟩) (by assumption) ?_
                (try simp only [Act.put, List.setIfInBounds_toArray, List.set_cons_zero, List.set_cons_succ])
                refine wpAnyH_take (i := 12) (v := .agg #[.int .i64 e.2.1, .slice Bm m d]) rfl (by kernel_rfl) (by kernel_rfl) (by kernel_rfl) (fun _ _ _ h => h) (Or.inl ⟨by kernel_rfl, fun wv hSw => by (obtain ⟨hS0, hS1, hS2, hS3, hS4⟩ := hSw); go_simp⟩) (by assumption) ?_
                (try simp only [Act.put, List.setIfInBounds_toArray, List.set_cons_zero, List.set_cons_succ])
                refine wpAnyH_ready (rs := [13]) (by kernel_rfl) (by simp) ?_
                refine AllReadyH.cons rfl (fun K hK => ?_) AllReadyH.nil
                go_simp
                refine (HT1 _ Tk).mono ?_
                rintro e' wn ⟨rfl, hbn⟩
                replace Tk := below_next Tk hbn rfl
                go_wp2_with fail
                refine hK.out _ _ ⟨keepc Tk cc0, keepc Tk cc1, keepc Tk cc2, keepc Tk d1, keepc Tk d2⟩ (fun hHeld2 => ?_)
                clear hK K hHeld1
                (try simp only [Act.put, List.setIfInBounds_toArray, List.set_cons_zero, List.set_cons_succ])
                refine wpAnyH_take (i := 14) (v := .bool false) rfl (by kernel_rfl) (by kernel_rfl) (by kernel_rfl) (fun _ _ _ h => h) (Or.inl ⟨by kernel_rfl, fun _ _ => by go_simp⟩) (by assumption) ?_
                (try simp only [Act.put, List.setIfInBounds_toArray, List.set_cons_zero, List.set_cons_succ])
                refine wpAnyH_take (i := 15) (v := .bool false) rfl (by kernel_rfl) (by kernel_rfl) (by kernel_rfl) (fun _ _ _ h => h) (Or.inl ⟨by kernel_rfl, fun _ _ => by go_simp⟩) (by assumption) ?_
                (try simp only [Act.put, List.setIfInBounds_toArray, List.set_cons_zero, List.set_cons_succ])
                refine wpAnyH_take (i := 16) (v := .bool false) rfl (by kernel_rfl) (by kernel_rfl) (by kernel_rfl) (fun _ _ _ h => h) (Or.inl ⟨by kernel_rfl, fun _ _ => by go_simp⟩) (by assumption) ?_
                (try simp only [Act.put, List.setIfInBounds_toArray, List.set_cons_zero, List.set_cons_succ])
                refine wpAnyH_take (i := 17) (v := .int .i64 (k : Int)) rfl (by kernel_rfl) (by kernel_rfl) (by kernel_rfl) (fun _ _ _ h => h) (Or.inl ⟨by kernel_rfl, fun _ _ => by go_simp⟩) (by assumption) ?_
                (try simp only [Act.put, List.setIfInBounds_toArray, List.set_cons_zero, List.set_cons_succ])
                refine wpAnyH_take (i := 18) (v := .bool true) rfl (by kernel_rfl) (by kernel_rfl) (by kernel_rfl) (fun _ _ _ h => h) (Or.inl ⟨by kernel_rfl, fun _ _ => by go_simp⟩) (by assumption) ?_
                (try simp only [Act.put, List.setIfInBounds_toArray, List.set_cons_zero, List.set_cons_succ])
                refine wpAnyH_take (i := 19) (v := .bool true) rfl (by kernel_rfl) (by kernel_rfl) (by kernel_rfl) (fun _ _ _ h => h) (Or.inl ⟨by kernel_rfl, fun _ _ => by go_simp⟩) (by assumption) ?_
                (try simp only [Act.put, List.setIfInBounds_toArray, List.set_cons_zero, List.set_cons_succ])
                refine wpAnyH_take (i := 20) (v := .slice (some ⟨b, o, none⟩) xs.length c) rfl (by kernel_rfl) (by kernel_rfl) (by kernel_rfl) (fun _ _ _ h => h) (Or.inl ⟨by kernel_rfl, fun _ _ => by go_simp⟩) (by assumption) ?_
                (try simp only [Act.put, List.setIfInBounds_toArray, List.set_cons_zero, List.set_cons_succ])
                refine wpAnyH_take (i := 21) (v := .int .i64 (k : Int)) rfl (by kernel_rfl) (by kernel_rfl) (by kernel_rfl) (fun _ _ _ h => h) (Or.inl ⟨by kernel_rfl, fun _ _ => by go_simp⟩) (by assumption) ?_
                (try simp only [Act.put, List.setIfInBounds_toArray, List.set_cons_zero, List.set_cons_succ])
                refine wpAnyH_take (i := 22) (v := .int .i64 ((k : Int) - 1)) rfl (by kernel_rfl) (by kernel_rfl) (by kernel_rfl) (fun _ _ _ h => h) (Or.inl ⟨by kernel_rfl, fun _ _ => by go_simp⟩) (by assumption) ?_
                (try simp only [Act.put, List.setIfInBounds_toArray, List.set_cons_zero, List.set_cons_succ])
                refine wpAnyH_take (i := 23) (v := .pointer (some ⟨b, o + (k - 1) * 3, none⟩)) rfl (by kernel_rfl) (by kernel_rfl) (by kernel_rfl) (fun _ _ _ h => h) (Or.inl ⟨by kernel_rfl, fun _ _ => by go_simp⟩) (by assumption) ?_
                (try simp only [Act.put, List.setIfInBounds_toArray, List.set_cons_zero, List.set_cons_succ])
                refine wpAnyH_take (i := 24) (v := .pointer (some ⟨b, o + (k - 1) * 3 + 1, none⟩)) rfl (by kernel_rfl) (by kernel_rfl) (by kernel_rfl) (fun _ _ _ h => h) (Or.inl ⟨by kernel_rfl, fun _ _ => by go_simp⟩) (by assumption) ?_
                (try simp only [Act.put, List.setIfInBounds_toArray, List.set_cons_zero, List.set_cons_succ])
                refine wpAnyH_take (i := 25) (v := .agg #[.int .i64 p.2.1, .slice Bp mp dp]) rfl (by kernel_rfl) (by kernel_rfl) (by kernel_rfl) (fun _ _ _ h => h) (Or.inl ⟨by kernel_rfl, fun wv hSw => by (obtain ⟨hS0, hS1, hS2, hS3, hS4⟩ := hSw); go_simp⟩) (by assumption) ?_
                (try simp only [Act.put, List.setIfInBounds_toArray, List.set_cons_zero, List.set_cons_succ])
                refine wpAnyH_take (i := 26) (v := .slice (some ⟨b, o, none⟩) xs.length c) rfl (by kernel_rfl) (by kernel_rfl) (by kernel_rfl) (fun _ _ _ h => h) (Or.inl ⟨by kernel_rfl, fun _ _ => by go_simp⟩) (by assumption) ?_
                (try simp only [Act.put, List.setIfInBounds_toArray, List.set_cons_zero, List.set_cons_succ])
                refine wpAnyH_take (i := 27) (v := .int .i64 (k : Int)) rfl (by kernel_rfl) (by kernel_rfl) (by kernel_rfl) (fun _ _ _ h => h) (Or.inl ⟨by kernel_rfl, fun _ _ => by go_simp⟩) (by assumption) ?_
                (try simp only [Act.put, List.setIfInBounds_toArray, List.set_cons_zero, List.set_cons_succ])
                refine wpAnyH_take (i := 28) (v := .pointer (some ⟨b, o + k * 3, none⟩)) rfl (by kernel_rfl) (by kernel_rfl) (by kernel_rfl) (fun _ _ _ h => h) (Or.inl ⟨by kernel_rfl, fun _ _ => by go_simp⟩) (by assumption) ?_
                (try simp only [Act.put, List.setIfInBounds_toArray, List.set_cons_zero, List.set_cons_succ])
                refine wpAnyH_take (i := 29) (v := .pointer (some ⟨b, o + k * 3 + 1, none⟩)) rfl (by kernel_rfl) (by kernel_rfl) (by kernel_rfl) (fun _ _ _ h => h) (Or.inl ⟨by kernel_rfl, fun _ _ => by go_simp⟩) (by assumption) ?_
                (try simp only [Act.put, List.setIfInBounds_toArray, List.set_cons_zero, List.set_cons_succ])
                refine wpAnyH_take (i := 30) (v := .agg #[.int .i64 e.2.1, .slice Bm m d]) rfl (by kernel_rfl) (by kernel_rfl) (by kernel_rfl) (fun _ _ _ h => h) (Or.inl ⟨by kernel_rfl, fun wv hSw => by (obtain ⟨hS0, hS1, hS2, hS3, hS4⟩ := hSw); go_simp⟩) (by assumption) ?_
                (try simp only [Act.put, List.setIfInBounds_toArray, List.set_cons_zero, List.set_cons_succ])
                refine wpAnyH_ready (rs := [31]) (by kernel_rfl) (by simp) ?_
                refine AllReadyH.cons rfl (fun K hK => ?_) AllReadyH.nil
                go_simp
                refine (HC1 _ Tk).mono ?_
                rintro e' wn ⟨rfl, hbn⟩
                replace Tk := below_next Tk hbn rfl
                go_wp2_with fail
                refine hK.out _ _ ⟨keepc Tk cc0, keepc Tk cc1, keepc Tk cc2, keepc Tk d1, keepc Tk d2⟩ (fun hHeld3 => ?_)
                clear hK K hHeld2
                (try simp only [Act.put, List.setIfInBounds_toArray, List.set_cons_zero, List.set_cons_succ])
                refine wpAnyH_take (i := 32) (v := .bool (!q)) rfl (by kernel_rfl) (by kernel_rfl) (by kernel_rfl) (fun _ _ _ h => h) (Or.inl ⟨by kernel_rfl, fun _ _ => by go_simp⟩) (by assumption) ?_
                (try simp only [Act.put, List.setIfInBounds_toArray, List.set_cons_zero, List.set_cons_succ])
                refine wpAnyH_take (i := 33) (v := .bool (!q)) rfl (by kernel_rfl) (by kernel_rfl) (by kernel_rfl) (fun _ _ _ h => h) (Or.inl ⟨by kernel_rfl, fun _ _ => by go_simp⟩) (by assumption) ?_
                (try simp only [Act.put, List.getElem_toArray, List.getElem_cons_zero, List.getElem_cons_succ, List.setIfInBounds_toArray, List.set_cons_zero, List.set_cons_succ])
                refine wpAnyH_take (i := 34) (v := .bool (!q)) rfl (by kernel_rfl) (by kernel_rfl) (by kernel_rfl) (fun _ _ _ h => h) (Or.inl ⟨by kernel_rfl, fun _ _ => by go_simp⟩) (by assumption) ?_
                (try simp only [Act.put, List.getElem_toArray, List.getElem_cons_zero, List.getElem_cons_succ, List.setIfInBounds_toArray, List.set_cons_zero, List.set_cons_succ])
                refine wpAnyH_done (by kernel_rfl) ?_ _
                all_goals
                  go_wp2_with fail
                  go_meet
                  exact ⟨rfl, by first | exact Tk | exact Below.drew Tk⟩
          case rest =>
            obtain ⟨rfl, hTc⟩ := hcut
            obtain ⟨w5, HWC⟩ : ∃ wq : World, wq = wc := ⟨_, rfl⟩
            subst HWC
            have T5 := below_next hTw hTc rfl
            rcases q with _ | _
            · go_wp2_with fail
              go_ret
              exact ⟨ret_bool (HH.out.stop HD.out (by rw [HOK2.out, Bool.and_false, Bool.and_false])), T5⟩
            · have hr3 : r3 = true := by
                have := HQ.out
                rcases r3 with _ | _
                · exact absurd this (by simp)
                · rfl
              subst hr3
              have hsm := small_iff.1 HR3.out
              have hlb : lastB pre e = true := HQ.out
              have HLB := Lib.hid hlb
              have HSN : Hid (∀ e' ∈ xs.take (k + 1), SmallP e'.2) := by
                show ∀ e' ∈ xs.take (k + 1), SmallP e'.2
                intro e' he'
                rw [take_snoc HX.out, List.mem_append] at he'
                rcases he' with h1 | h1
                · exact HST.out e' h1
                · rw [List.mem_singleton] at h1
                  subst h1
                  exact hsm
              have HRX : Hid (InR (canA e.2).1) := small_R (canA_small hsm)
              have HSX : Hid (SmallP (canA e.2)) := canA_small hsm
              have hkk : (k : Int) ≤ 9223372036854775807 := by omega
              clear hlb HT1 Tk
              go_wp2_with fail
              go_loopw [4] (fun j wj => ∃ jn : Nat, jn ≤ k ∧ j = .int .i64 jn ∧ hasS e.1 ((xs.take jn).map (·.1)) = false ∧ Below w.heap.size w wj) (fun j _ => k - (intOf j).toNat)
              case atStart => exact ⟨0, Nat.zero_le _, rfl, rfl, T5⟩
              case round =>
                obtain ⟨j, hj, rfl, hno, hTj⟩ := hrel
                have HNO := Lib.hid hno
                clear hno
                by_cases hjk : j < k
                · have hj0 : (0 : Int) ≤ (j : Int) := by omega
                  have hj1 : (j : Int) < (k : Int) := by omega
                  have hj2 : (j : Int) < (xs.length : Int) := by omega
                  obtain ⟨b', o', vs', f, hA', -, hc', hr', -, hxf⟩ := h.at (k := j) (by omega)
                  have hA2 := hA'
                  simp only [Option.some.injEq, Addr.mk.injEq, and_true] at hA2
                  obtain ⟨rfl, rfl⟩ := hA2
                  obtain ⟨Bf, mf, df, rfl, -, -, -⟩ := rdEntry hr'
                  obtain ⟨b2, o2, vs2, e2, hA3, -, hc2, hr2, -, hxe2⟩ := h.at hlt
                  simp only [Option.some.injEq, Addr.mk.injEq, and_true] at hA3
                  obtain ⟨rfl, rfl⟩ := hA3
                  obtain rfl : e2 = e := by
                    have := HX.out
                    rw [hxe2] at this
                    exact Option.some.inj this
                  obtain ⟨B3, m3, d3, rfl, -, -, -⟩ := rdEntry hr2
                  have d0 : wr.cell? ⟨b, o + j * 3, none⟩ = some (.string f.1) := keepc hTj (hc' 0 _ rfl)
                  have d1 : wr.cell? ⟨b, o + k * 3, none⟩ = some (.string e2.1) := keepc hTj (hc2 0 _ rfl)
                  have HXF := Lib.hid hxf
                  clear hc' hc2 hA' hxf hxe2
                  by_cases he : f.1 = e2.1
                  · have hd1 : (f.1.toList == e2.1.toList) = true := eqq_str (eqC_iff.2 he)
                    have HE := Lib.hid he
                    clear he
                    go_upto_region 11 with fail
                    go_quiet (fail)
                    go_wp2_with fail
                    go_ret
                    exact ⟨ret_bool (HH.out.stop HD.out (by rw [HOK2.out, hasS_hit hjk HXF.out HE.out]; rfl)), below_drewN hTj _⟩
                  · have hd1 : (f.1.toList == e2.1.toList) = false := eqq_str (eqC_no.2 he)
                    have HE := Lib.hid he
                    clear he
                    go_upto_region 11 with fail
                    go_quiet (fail)
                    go_wp2_with fail
                    go_roundw
                    case rel => exact ⟨j + 1, by omega, by go_num, hasS_step HNO.out HXF.out HE.out, below_drewN hTj _⟩
                    case measure => simp [intOf]; omega
                · obtain rfl : j = k := by omega
                  have hjk' : ¬ (j : Int) < (j : Int) := by omega
                  obtain ⟨b2, o2, vs2, e2, hA3, -, hc2, hr2, -, hxe2⟩ := h.at hlt
                  simp only [Option.some.injEq, Addr.mk.injEq, and_true] at hA3
                  obtain ⟨rfl, rfl⟩ := hA3
                  obtain rfl : e2 = e := by
                    have := HX.out
                    rw [hxe2] at this
                    exact Option.some.inj this
                  obtain ⟨B3, m3, d3, rfl, hsz3, hIn3, hops3⟩ := rdEntry hr2
                  have d1 : wr.cell? ⟨b, o + j * 3 + 1, none⟩ = some (.int .i64 e2.2.1) := keepc hTj (hc2 1 _ rfl)
                  have d2 : wr.cell? ⟨b, o + j * 3 + 2, none⟩ = some (.slice B3 m3 d3) := keepc hTj (hc2 2 _ rfl)
                  have hral3 := mkAlgebra (cOps := d3) hIn3 hops3
                  have HC1 : ∀ wz, Below wr.heap.size wr wz → Calls Try.prog 51 #[.agg #[.int .i64 e2.2.1, .slice B3 m3 d3]] wz (AlgE wz (canA e2.2)) := fun wz hz =>
                    l31Form_any [.int .i64 e2.2.1, .slice B3 m3 d3] e2.2 wz (shAlgebra.stab hral3 (below_next hTj hz rfl).block) hsm
                  obtain ⟨sv, HSV⟩ : ∃ b, Hid (eqC (canA e2.2) e2.2 = b) := ⟨_, rfl⟩
                  have HC2 : ∀ wz v css bls, Below wr.heap.size wr wz → PO 0 wz v (canA e2.2).2 css bls → Calls Try.prog 55 #[.agg #[.int .i64 (canA e2.2).1, v], .agg #[.int .i64 e2.2.1, .slice B3 m3 d3]] wz (Bl wz (.bool sv)) := fun wz v css bls hz hp => by
                    have := l31Same_any [.int .i64 (canA e2.2).1, v] [.int .i64 e2.2.1, .slice B3 m3 d3] (canA e2.2) e2.2 wz (hp.alg HRX.out) (shAlgebra.stab hral3 (below_next hTj hz rfl).block) HSX.out hsm
                    rw [show eqC (canA e2.2) e2.2 = sv from HSV.out] at this
                    exact this
                  have Tk : Below wr.heap.size wr wr := Below.refl _ _
                  clear hc2 hr2 hxe2 hops hops3 cc0 cc1 cc2
                  go_upto_region 13 with fail
                  go_cut [77] (fun v77 wx => v77 = .bool (!sv) ∧ Below wr.heap.size wr wx)
                  case first =>
                    go_region_held3 (fun w' => w'.cell? ⟨b, o + j * 3 + 1, none⟩ = some (.int .i64 e2.2.1) ∧ w'.cell? ⟨b, o + j * 3 + 2, none⟩ = some (.slice B3 m3 d3)) (first | go_keep | exact ⟨keepc Tk d1, keepc Tk d2⟩) (first
                      | (go_at_call 51; (with_reducible refine (HC1 _ ?_).mono ?_); (first | exact Tk | exact Below.drew Tk); rintro e' wn ⟨vv, css, bls, rfl, hPn, hbn⟩; replace Tk := below_next (by first | exact Tk | exact Below.drew Tk) hbn rfl)
                      | (go_at_call 55; refine (HC2 _ _ _ _ (by first | exact Tk | exact Below.drew Tk) (by first | exact hPn.mono (Nat.zero_le _) | exact (hPn.mono (Nat.zero_le _)).next (Below.drew (Below.refl _ _)))).mono ?_; rintro e' wm ⟨rfl, hbm⟩; replace Tk := below_next (by first | exact Tk | exact Below.drew Tk) hbm rfl))
                    all_goals
                      go_wp2_with fail
                      go_meet
                      exact ⟨rfl, by first | exact Tk | exact Below.drew Tk⟩
                  case rest =>
                    obtain ⟨rfl, hTc6⟩ := hcut
                    obtain ⟨w6, HWC⟩ : ∃ wq : World, wq = wc := ⟨_, rfl⟩
                    subst HWC
                    have T6 := below_next hTj hTc6 rfl
                    clear d1 d2 HC1 HC2 Tk
                    rcases sv with _ | _
                    · go_wp2_with fail
                      go_ret
                      exact ⟨ret_bool (HH.out.stop HD.out (by rw [HOK2.out, HSV.out, Bool.false_and, Bool.and_false])), T6⟩
                    · go_wp2_with fail
                      go_roundw
                      case rel => exact ⟨j + 1, by omega, by go_num, HH.out.step HD.out HX.out (by rw [HOK2.out, HSV.out, HNO.out]; rfl), HSN.out, T6⟩
                      case measure => simp [intOf]; omega
      · have hlt' : ¬ (k : Int) < (xs.length : Int) := by omega
        have HH := Lib.hid H
        clear H hS
        go_wp2_with fail
        go_ret
        exact ⟨ret_bool (HH.out.done hn hlt), hTw⟩
  · have hn' : (12 : Int) < (xs.length : Int) := by omega
    go_enter Try.func46, Try.ntmps46
    go_wp2_with fail
    go_ret
    exact ⟨ret_bool (catB_big hn), Below.refl _ _⟩
end Go.Proofs.Ytkmgbdljiajlaaa
namespace Go.Proofs.Ytkmgbdljiajlaaa
open Go.RowKit

/-- The canonical form handed back, as it reads. -/
def FormR (x : AlgebraM) (w : World) (V : Option Addr) (L vc : Nat) (w' : World) : Prop := shAlgebra.rd w' [.int .i64 (canA x).1, .slice V L vc] (canA x) ∧ Below w.heap.size w w'
theorem canonR {cs : List Value} {x : AlgebraM} {w : World} (h : shAlgebra.rd w cs x) (hx : SmallP x) :
    Calls Try.prog 43 #[.agg cs.toArray] w (fun e w' => ∃ V L vc u, e = .returned (.tuple #[.agg #[.int .i64 (canA x).1, .slice V L vc], u]) ∧ FormR x w V L vc w') := by
  obtain ⟨n, hn⟩ : ∃ n : Nat, x.1 = (n : Int) := ⟨x.1.toNat, by have h1 := hx.1; omega⟩
  refine (canonical_any cs x n w h hx hn).mono ?_
  rintro e w' ⟨vb, css, bls, Af, cf, rfl, hP, -, hb⟩
  obtain ⟨V, vc, rfl⟩ := own_slice hP.2.1
  have e1 : (canA x).1 = (n : Int) := by rw [← hn]; rfl
  refine ⟨V, (canA x).2.length, vc, _, by rw [e1], ?_, hb⟩
  exact hP.alg (show InR (canA x).1 from small_R (canA_small hx))
theorem formR {cs : List Value} {x : AlgebraM} {w : World} (h : shAlgebra.rd w cs x) (hx : SmallP x) :
    Calls Try.prog 51 #[.agg cs.toArray] w (fun e w' => ∃ V L vc, e = .returned (.agg #[.int .i64 (canA x).1, .slice V L vc]) ∧ FormR x w V L vc w') := by
  refine (l31Form_any cs x w h hx).mono ?_
  rintro e w' ⟨v, css, bls, rfl, hP, hb⟩
  obtain ⟨V, vc, rfl⟩ := own_slice hP.2.1
  exact ⟨V, (canA x).2.length, vc, rfl, hP.alg (show InR (canA x).1 from small_R (canA_small hx)), hb⟩

noncomputable def findN (y : AlgebraM) : List EntryM → ByteArray × Bool
  | [] => (⟨#[]⟩, false)
  | e :: l => if eqC e.2 y then (e.1, true) else findN y l
noncomputable def noP (xs : List EntryM) (x : AlgebraM) : ByteArray × Bool := if catB xs && smallB x then findN (canA x) xs else (⟨#[]⟩, false)
def FAt (y : AlgebraM) (xs : List EntryM) (k : Nat) : Prop := findN y (xs.drop k) = findN y xs
theorem FAt.step {y : AlgebraM} {xs : List EntryM} {k : Nat} {e : EntryM} (h : FAt y xs k) (hd : xs.drop k = e :: xs.drop (k + 1)) (hn : eqC e.2 y = false) : FAt y xs (k + 1) := by
  unfold FAt at *
  rw [hd, findN, hn, if_neg (by decide)] at h
  exact h
theorem FAt.stop {y : AlgebraM} {xs : List EntryM} {k : Nat} {e : EntryM} (h : FAt y xs k) (hd : xs.drop k = e :: xs.drop (k + 1)) (hn : eqC e.2 y = true) : findN y xs = (e.1, true) := by
  unfold FAt at *
  rw [hd, findN, hn, if_pos rfl] at h
  exact h.symm
theorem FAt.done {y : AlgebraM} {xs : List EntryM} {k : Nat} (h : FAt y xs k) (hk : ¬ k < xs.length) : findN y xs = (⟨#[]⟩, false) := by
  unfold FAt at *
  rw [List.drop_eq_nil_of_le (by omega), findN] at h
  exact h.symm
theorem catF_small {e : EntryM} : ∀ {pre l : List EntryM}, catF pre l = true → e ∈ l → SmallP e.2
  | pre, f :: l, h, he => by
    rw [catF, Bool.and_eq_true] at h
    rcases List.mem_cons.1 he with rfl | he
    · have := h.1
      unfold okE at this
      simp only [Bool.and_eq_true] at this
      exact small_iff.1 this.2.2.1
    · exact catF_small h.2 he
theorem cat_small {xs : List EntryM} (h : catB xs = true) {e : EntryM} (he : e ∈ xs) : SmallP e.2 := by
  unfold catB at h
  rw [Bool.and_eq_true] at h
  exact catF_small h.2 he

set_option maxRecDepth 100000 in
set_option maxHeartbeats 8000000 in
theorem implNameOf_any (A : Option Addr) (n c : Nat) (xs : List EntryM) (ds : List Value) (y : AlgebraM) (w : World) (h : RdN shEntry.m shEntry.rd w A n xs) (h' : shAlgebra.rd w ds y) :
    Calls Try.prog 12 #[.slice A n c, .agg ds.toArray] w (Bl w (.tuple #[.string (noP xs y).1, .bool (noP xs y).2])) := by
  have hrd' := h'
  obtain rfl : xs.length = n := h.len
  have hle := h.le
  obtain ⟨D, m, d, rfl, qs', qo'⟩ := rdAlgebra h'
  obtain ⟨w0, hw0, T0, hsz0, BP⟩ := boxes1 w #[.int .i64 y.1, .slice D m d] 27
  have HW0 := Lib.hid hw0
  clear hw0 hsz0 h' qs' qo'
  obtain ⟨r1, HR1⟩ : ∃ r, Hid (catB xs = r) := ⟨_, rfl⟩
  obtain ⟨r2, HR2⟩ : ∃ r, Hid (smallB y = r) := ⟨_, rfl⟩
  have HM : Hid (noP xs y = if r1 && r2 then findN (canA y) xs else (⟨#[]⟩, false)) := by show _ = _; unfold noP; rw [HR1.out, HR2.out]
  rw [HM.out]
  clear HM
  rcases r1 with _ | _
  · go_enter Try.func12, Try.ntmps12
    go_wp2_with fail
    rw [← HW0.out]
    refine (isCat_any _ _ _ xs _ (h.next T0)).mono ?_
    rintro e w1 ⟨rfl, hb1⟩
    rw [HR1.out]
    have T1 := below_next T0 hb1 rfl
    go_wp2_with fail
    go_ret2
    exact ⟨rfl, T1⟩
  · rcases r2 with _ | _
    · go_enter Try.func12, Try.ntmps12
      go_wp2_with fail
      rw [← HW0.out]
      refine (isCat_any _ _ _ xs _ (h.next T0)).mono ?_
      rintro e w1 ⟨rfl, hb1⟩
      rw [HR1.out]
      have T1 := below_next T0 hb1 rfl
      replace BP := BP.next hb1
      have cP0 := BP.cell 0
      have cP1 := BP.cell 1
      simp at cP0 cP1
      go_wp2_with fail
      refine (isNamed_any _ y _ (shAlgebra.stab hrd' T1.block)).mono ?_
      rintro e w2 ⟨rfl, hb2⟩
      rw [HR2.out]
      have T2 := below_next T1 hb2 rfl
      go_wp2_with fail
      go_ret2
      exact ⟨rfl, T2⟩
    · rw [show (true && true) = true from rfl, if_pos rfl]
      have hsy := small_iff.1 HR2.out
      have HSM : Hid (∀ e ∈ xs, SmallP e.2) := fun e he => cat_small HR1.out he
      obtain ⟨z, HZ⟩ : ∃ z, Hid (canA y = z) := ⟨_, rfl⟩
      rw [HZ.out]
      go_enter Try.func12, Try.ntmps12
      go_wp2_with fail
      rw [← HW0.out]
      refine (isCat_any _ _ _ xs _ (h.next T0)).mono ?_
      rintro e w1 ⟨rfl, hb1⟩
      rw [HR1.out]
      have T1 := below_next T0 hb1 rfl
      replace BP := BP.next hb1
      have cP0 := BP.cell 0
      have cP1 := BP.cell 1
      simp at cP0 cP1
      go_wp2_with fail
      refine (isNamed_any _ y _ (shAlgebra.stab hrd' T1.block)).mono ?_
      rintro e w2 ⟨rfl, hb2⟩
      rw [HR2.out]
      have T2 := below_next T1 hb2 rfl
      replace BP := BP.next hb2
      clear cP0 cP1
      have cP0 := BP.cell 0
      have cP1 := BP.cell 1
      simp at cP0 cP1
      go_wp2_with fail
      refine (canonR (shAlgebra.stab hrd' T2.block) hsy).mono ?_
      rintro e w3 ⟨V, L, vc, uu, rfl, hF, hb3⟩
      rw [HZ.out] at hF ⊢
      have T3 := below_next T2 hb3 rfl
      obtain ⟨w4, hw4, T4', -, BX⟩ := boxes1 w3 #[.int .i64 z.1, .slice V L vc] 27
      have HW4 := Lib.hid hw4
      have T4 := below_next T3 T4' rfl
      have hF4 := shAlgebra.stab hF T4'.block
      have hz34 := T3.size
      have hz4 := BX.lt
      clear hw4 cP0 cP1 BP hF
      go_wp2_with fail
      rw [← HW4.out]
      go_loopw [25] (fun i wr => ∃ k : Nat, k ≤ xs.length ∧ i = .int .i64 k ∧ FAt z xs k ∧ Below w4.heap.size w4 wr) (fun i _ => xs.length - (intOf i).toNat)
      case atStart => exact ⟨0, Nat.zero_le _, rfl, rfl, Below.refl _ _⟩
      case round =>
        obtain ⟨k, hk, rfl, H, hTr⟩ := hrel
        have hTw := below_next T4 hTr rfl
        by_cases hlt : k < xs.length
        · obtain ⟨b, o, vs, e, hA, -, hc, hr, hd, hxe⟩ := h.at hlt
          obtain ⟨Bm, mm, dm, rfl, hsz, hIn, hops⟩ := rdEntry hr
          have cc0 : wr.cell? ⟨b, o + k * 3, none⟩ = some (.string e.1) := keepc hTw (hc 0 _ rfl)
          have cc1 : wr.cell? ⟨b, o + k * 3 + 1, none⟩ = some (.int .i64 e.2.1) := keepc hTw (hc 1 _ rfl)
          have cc2 : wr.cell? ⟨b, o + k * 3 + 2, none⟩ = some (.slice Bm mm dm) := keepc hTw (hc 2 _ rfl)
          have hral := mkAlgebra (cOps := dm) hIn hops
          have hse := HSM.out e (List.mem_of_getElem? hxe)
          have HH := Lib.hid H
          have HD := Lib.hid hd
          subst hA
          obtain ⟨wb, HWB⟩ : ∃ wb, Hid (wb = wr.alloc (.cells #[.string e.1, .int .i64 e.2.1, .slice Bm mm dm] 33)) := ⟨_, rfl⟩
          have hb1 : Below wr.heap.size wr wb := by rw [HWB.out]; exact below_box _ _
          have BN : Blk wb wr.heap.size 33 #[.string e.1, .int .i64 e.2.1, .slice Bm mm dm] := by rw [HWB.out]; exact Blk.new _ _ _
          have Tb := below_next hTr hb1 rfl
          have BXb := (BX.next hTr).next hb1
          have cX0 := BXb.cell 0
          have cX1 := BXb.cell 1
          have cN0 := BN.cell 0
          have cN1 := BN.cell 1
          have cN2 := BN.cell 2
          simp at cX0 cX1 cN0 cN1 cN2
          have rdz := shAlgebra.stab hF4 Tb.block
          have rde := shAlgebra.stab hral (below_next T4 Tb rfl).block
          have hk0 : (0 : Int) ≤ (k : Int) := by omega
          have hk1 : (k : Int) < (xs.length : Int) := by omega
          obtain ⟨sv, HSV⟩ : ∃ b, Hid (eqC e.2 z = b) := ⟨_, rfl⟩
          clear H hd hxe hc hr hops hb1
          go_upto_region 7 with fail
          rw [← HWB.out]
          go_wp2_with fail
          refine (sameAlgebra_any _ _ e.2 z _ rde rdz).mono ?_
          rintro e' w6 ⟨rfl, hb6⟩
          rw [HSV.out]
          have T6 := below_next Tb hb6 rfl
          have BN6 := BN.next hb6
          clear cN0 cN1 cN2 cX0 cX1
          have cN0 := BN6.cell 0
          simp at cN0
          rcases sv with _ | _
          · go_wp2_with fail
            go_roundw
            case rel => exact ⟨k + 1, by omega, by go_num, HH.out.step HD.out HSV.out, T6⟩
            case measure => simp [intOf]; omega
          · go_wp2_with fail
            go_ret2
            exact ⟨by rw [HH.out.stop HD.out HSV.out]; rfl, below_next T4 T6 rfl⟩
        · have hlt' : ¬ (k : Int) < (xs.length : Int) := by omega
          have HH := Lib.hid H
          clear H
          go_wp2_with fail
          go_ret2
          exact ⟨by rw [HH.out.done hlt]; rfl, hTw⟩
set_option maxRecDepth 100000 in
set_option maxHeartbeats 8000000 in
theorem specNameOf_any (A : Option Addr) (n c : Nat) (xs : List EntryM) (ds : List Value) (y : AlgebraM) (w : World) (h : RdN shEntry.m shEntry.rd w A n xs) (h' : shAlgebra.rd w ds y) :
    Calls Try.prog 18 #[.slice A n c, .agg ds.toArray] w (Bl w (.tuple #[.string (noP xs y).1, .bool (noP xs y).2])) := by
  have hrd' := h'
  obtain rfl : xs.length = n := h.len
  have hle := h.le
  obtain ⟨D, m, d, rfl, qs', qo'⟩ := rdAlgebra h'
  obtain ⟨w0, hw0, T0, hsz0, BP⟩ := boxes1 w #[.int .i64 y.1, .slice D m d] 27
  have HW0 := Lib.hid hw0
  clear hw0 hsz0 h' qs' qo'
  obtain ⟨r1, HR1⟩ : ∃ r, Hid (catB xs = r) := ⟨_, rfl⟩
  obtain ⟨r2, HR2⟩ : ∃ r, Hid (smallB y = r) := ⟨_, rfl⟩
  have HM : Hid (noP xs y = if r1 && r2 then findN (canA y) xs else (⟨#[]⟩, false)) := by show _ = _; unfold noP; rw [HR1.out, HR2.out]
  rw [HM.out]
  clear HM
  rcases r1 with _ | _
  · go_enter Try.func18, Try.ntmps18
    go_wp2_with fail
    rw [← HW0.out]
    refine (l31Good_any _ _ _ xs _ (h.next T0)).mono ?_
    rintro e w1 ⟨rfl, hb1⟩
    rw [HR1.out]
    have T1 := below_next T0 hb1 rfl
    go_wp2_with fail
    go_ret2
    exact ⟨rfl, T1⟩
  · rcases r2 with _ | _
    · go_enter Try.func18, Try.ntmps18
      go_wp2_with fail
      rw [← HW0.out]
      refine (l31Good_any _ _ _ xs _ (h.next T0)).mono ?_
      rintro e w1 ⟨rfl, hb1⟩
      rw [HR1.out]
      have T1 := below_next T0 hb1 rfl
      replace BP := BP.next hb1
      have cP0 := BP.cell 0
      have cP1 := BP.cell 1
      simp at cP0 cP1
      go_wp2_with fail
      refine (l31Takes_any _ y _ (shAlgebra.stab hrd' T1.block)).mono ?_
      rintro e w2 ⟨rfl, hb2⟩
      rw [HR2.out]
      have T2 := below_next T1 hb2 rfl
      go_wp2_with fail
      go_ret2
      exact ⟨rfl, T2⟩
    · rw [show (true && true) = true from rfl, if_pos rfl]
      have hsy := small_iff.1 HR2.out
      have HSM : Hid (∀ e ∈ xs, SmallP e.2) := fun e he => cat_small HR1.out he
      have HSZ : Hid (SmallP (canA y)) := canA_small hsy
      obtain ⟨z, HZ⟩ : ∃ z, Hid (canA y = z) := ⟨_, rfl⟩
      rw [HZ.out] at HSZ ⊢
      go_enter Try.func18, Try.ntmps18
      go_wp2_with fail
      rw [← HW0.out]
      refine (l31Good_any _ _ _ xs _ (h.next T0)).mono ?_
      rintro e w1 ⟨rfl, hb1⟩
      rw [HR1.out]
      have T1 := below_next T0 hb1 rfl
      replace BP := BP.next hb1
      have cP0 := BP.cell 0
      have cP1 := BP.cell 1
      simp at cP0 cP1
      go_wp2_with fail
      refine (l31Takes_any _ y _ (shAlgebra.stab hrd' T1.block)).mono ?_
      rintro e w2 ⟨rfl, hb2⟩
      rw [HR2.out]
      have T2 := below_next T1 hb2 rfl
      replace BP := BP.next hb2
      clear cP0 cP1
      have cP0 := BP.cell 0
      have cP1 := BP.cell 1
      simp at cP0 cP1
      go_wp2_with fail
      refine (formR (shAlgebra.stab hrd' T2.block) hsy).mono ?_
      rintro e w3 ⟨V, L, vc, rfl, hF, hb3⟩
      rw [HZ.out] at hF ⊢
      have T3 := below_next T2 hb3 rfl
      obtain ⟨w4, hw4, T4', -, BX⟩ := boxes1 w3 #[.int .i64 z.1, .slice V L vc] 27
      have HW4 := Lib.hid hw4
      have T4 := below_next T3 T4' rfl
      have hF4 := shAlgebra.stab hF T4'.block
      have hz34 := T3.size
      have hz4 := BX.lt
      clear hw4 cP0 cP1 BP hF
      go_wp2_with fail
      rw [← HW4.out]
      go_loopw [7] (fun i wr => ∃ k : Nat, k ≤ xs.length ∧ i = .int .i64 k ∧ FAt z xs k ∧ Below w4.heap.size w4 wr) (fun i _ => xs.length - (intOf i).toNat)
      case atStart => exact ⟨0, Nat.zero_le _, rfl, rfl, Below.refl _ _⟩
      case round =>
        obtain ⟨k, hk, rfl, H, hTr⟩ := hrel
        have hTw := below_next T4 hTr rfl
        by_cases hlt : k < xs.length
        · obtain ⟨b, o, vs, e, hA, -, hc, hr, hd, hxe⟩ := h.at hlt
          obtain ⟨Bm, mm, dm, rfl, hsz, hIn, hops⟩ := rdEntry hr
          have cc0 : wr.cell? ⟨b, o + k * 3, none⟩ = some (.string e.1) := keepc hTw (hc 0 _ rfl)
          have cc1 : wr.cell? ⟨b, o + k * 3 + 1, none⟩ = some (.int .i64 e.2.1) := keepc hTw (hc 1 _ rfl)
          have cc2 : wr.cell? ⟨b, o + k * 3 + 2, none⟩ = some (.slice Bm mm dm) := keepc hTw (hc 2 _ rfl)
          have hral := mkAlgebra (cOps := dm) hIn hops
          have hse := HSM.out e (List.mem_of_getElem? hxe)
          have HH := Lib.hid H
          have HD := Lib.hid hd
          subst hA
          have BXb := BX.next hTr
          have cX0 := BXb.cell 0
          have cX1 := BXb.cell 1
          simp at cX0 cX1
          have rdz := shAlgebra.stab hF4 hTr.block
          have rde := shAlgebra.stab hral hTw.block
          have hk0 : (0 : Int) ≤ (k : Int) := by omega
          have hk1 : (k : Int) < (xs.length : Int) := by omega
          obtain ⟨sv, HSV⟩ : ∃ b, Hid (eqC e.2 z = b) := ⟨_, rfl⟩
          have HC1 : ∀ wz, Below wr.heap.size wr wz → Calls Try.prog 55 #[.agg #[.int .i64 e.2.1, .slice Bm mm dm], .agg #[.int .i64 z.1, .slice V L vc]] wz (Bl wz (.bool sv)) := fun wz hz => by
            have := l31Same_any [.int .i64 e.2.1, .slice Bm mm dm] [.int .i64 z.1, .slice V L vc] e.2 z wz (shAlgebra.stab rde hz.block) (shAlgebra.stab rdz hz.block) hse HSZ.out
            rw [HSV.out] at this
            exact this
          have Tk : Below wr.heap.size wr wr := Below.refl _ _
          clear H hd hxe hc hr hops
          go_upto_region 7 with fail
          go_cut [30] (fun v30 wx => v30 = .bool sv ∧ Below wr.heap.size wr wx)
          case first =>
            go_region_held3 (fun w' => w'.cell? ⟨b, o + k * 3 + 1, none⟩ = some (.int .i64 e.2.1) ∧ w'.cell? ⟨b, o + k * 3 + 2, none⟩ = some (.slice Bm mm dm) ∧ w'.cell? ⟨w3.heap.size, 0, none⟩ = some (.int .i64 z.1) ∧ w'.cell? ⟨w3.heap.size, 1, none⟩ = some (.slice V L vc)) (first | go_keep | exact ⟨keepc Tk cc1, keepc Tk cc2, keepc Tk cX0, keepc Tk cX1⟩) (first
              | (go_at_call 55; (with_reducible refine (HC1 _ ?_).mono ?_); (first | exact Tk | exact Below.drew Tk); rintro e' wn ⟨rfl, hbn⟩; replace Tk := below_next (by first | exact Tk | exact Below.drew Tk) hbn rfl))
            all_goals
              go_wp2_with fail
              go_meet
              exact ⟨rfl, by first | exact Tk | exact Below.drew Tk⟩
          case rest =>
            obtain ⟨rfl, hTc⟩ := hcut
            obtain ⟨w6, HWC⟩ : ∃ wq : World, wq = wc := ⟨_, rfl⟩
            subst HWC
            have T6 := below_next hTr hTc rfl
            have d0 := keepc hTc cc0
            clear cc0 cc1 cc2 cX0 cX1 HC1 Tk
            rcases sv with _ | _
            · go_wp2_with fail
              go_roundw
              case rel => exact ⟨k + 1, by omega, by go_num, HH.out.step HD.out HSV.out, T6⟩
              case measure => simp [intOf]; omega
            · go_wp2_with fail
              go_ret2
              exact ⟨by rw [HH.out.stop HD.out HSV.out]; rfl, below_next T4 T6 rfl⟩
        · have hlt' : ¬ (k : Int) < (xs.length : Int) := by omega
          have HH := Lib.hid H
          clear H
          go_wp2_with fail
          go_ret2
          exact ⟨by rw [HH.out.done hlt]; rfl, hTw⟩
/-- spec.IsCatalogue. -/
theorem specIsCat_any (A : Option Addr) (n c : Nat) (xs : List EntryM) (w : World) (h : RdN shEntry.m shEntry.rd w A n xs) :
    Calls Try.prog 11 #[.slice A n c] w (Bl w (.bool (catB xs))) := by
  go_enter Try.func11, Try.ntmps11
  go_wp2_with (go_at_call 46; refine (l31Good_any _ _ _ xs _ h).mono ?_; rintro e w1 ⟨rfl, hb1⟩)
  go_ret
  exact ⟨rfl, hb1⟩

/-! ## The forms that the laws cite -/
theorem isCatv_any (v : Value) (xs : List EntryM) (w : World) (h : (Sh.rows shEntry 33).rd w [v] xs) : Calls Try.prog 10 #[v] w (Bl w (.bool (catB xs))) := by
  obtain ⟨A, n, c, e, r⟩ := h
  injection e with e _
  subst e
  exact isCat_any A n c xs w r
theorem specIsCatv_any (v : Value) (xs : List EntryM) (w : World) (h : (Sh.rows shEntry 33).rd w [v] xs) : Calls Try.prog 11 #[v] w (Bl w (.bool (catB xs))) := by
  obtain ⟨A, n, c, e, r⟩ := h
  injection e with e _
  subst e
  exact specIsCat_any A n c xs w r
theorem implNameOfv_any (v : Value) (xs : List EntryM) (ds : List Value) (y : AlgebraM) (w : World) (h : (Sh.rows shEntry 33).rd w [v] xs) (h' : shAlgebra.rd w ds y) : Calls Try.prog 12 #[v, .agg ds.toArray] w (Bl w (.tuple #[.string (noP xs y).1, .bool (noP xs y).2])) := by
  obtain ⟨A, n, c, e, r⟩ := h
  injection e with e _
  subst e
  exact implNameOf_any A n c xs ds y w r h'
theorem specNameOfv_any (v : Value) (xs : List EntryM) (ds : List Value) (y : AlgebraM) (w : World) (h : (Sh.rows shEntry 33).rd w [v] xs) (h' : shAlgebra.rd w ds y) : Calls Try.prog 18 #[v, .agg ds.toArray] w (Bl w (.tuple #[.string (noP xs y).1, .bool (noP xs y).2])) := by
  obtain ⟨A, n, c, e, r⟩ := h
  injection e with e _
  subst e
  exact specNameOf_any A n c xs ds y w r h'
end Go.Proofs.Ytkmgbdljiajlaaa
namespace Go.Proofs.Ytkmgbdljiajlaaa
open Go.RowKit

end Go.Proofs.Ytkmgbdljiajlaaa
namespace Go.Proofs.Ytkmgbdljiajlaaa
open Go.RowKit

theorem app3at {P : Program} (w0 : World) {ops : Array Oper} {rest : List Oper} {o : Oper} {a : Act} {Q : Exit → Act → World → Prop} (hgd : o.guard = none) (s x : Operand) (t e : TypeId)
    (ho : o.op = .call { callee := .builtin .append, args := #[s, x], argTypes := #[t, t] }) (z : Value) (bytes : Nat)
    (ht : P.underlying t = some (.slice e)) (hi : (P.info? e).map (fun i => (i.zero, i.size, i.bytes)) = some (some z, 3, bytes)) (hzs : z.cells.size = 3) (hbb : bytes ≤ 64)
    (base n c : Nat) (A : Option Addr) (xs : List Value) (hs : a.eval s = .slice A n c) (hown : w0.ownsRow base e 3 (.slice A n c) n xs) (u v y : Value) (h1 : u.oneCell' = true) (h2 : v.oneCell' = true) (h3 : y.oneCell' = true) (hx : a.eval x = .slice (some ⟨w0.heap.size, 0, none⟩) 1 1)
    (hn : n ≤ 1099511627776) (hbase : base ≤ w0.heap.size)
    (hK : ∀ A' c' w', w'.ownsRow base e 3 (.slice A' (n + 1) c') (n + 1) (xs ++ [u, v, y]) → w0.grownBy w' (Value.slice A n c).ownBlock → Below base w0 w' → ((Value.slice A' (n + 1) c').ownBlock = (Value.slice A n c).ownBlock ∨ (Value.slice A' (n + 1) c').ownBlock = some (w0.heap.size + 1)) → wpList P ops Q rest (a.put o.dst (.slice A' (n + 1) c')) w') :
    wpList P ops Q (o :: rest) a (w0.alloc (.cells #[u, v, y] e)) := by
  obtain ⟨i, hi, hz, hsize, hby⟩ := info_parts hi
  have hbound : (n + 1) * bytes ≤ 140737488355328 := Nat.le_trans (Nat.mul_le_mul_left (n + 1) hbb) (by omega)
  refine wpList_plain hgd fun _ hK' => ?_
  refine wp_append_at (w0.alloc (.cells #[u, v, y] e)) s x t ho base e i z 3 bytes ht hi hz hsize hby hzs (by omega) (.slice A n c) n xs hs (hown.alloc _) ⟨w0.heap.size, 0, none⟩ 1 1 [u, v, y] hx rfl ?_ ?_ (by unfold maxLen; omega) hbound (by simp; omega) ?_
  · intro j q hj
    match j, hj with
    | 0, hj => simp at hj; subst hj; simp [Addr.add]
    | 1, hj => simp at hj; subst hj; simp [Addr.add]
    | 2, hj => simp at hj; subst hj; simp [Addr.add]
  · intro q hy
    simp at hy
    rcases hy with rfl | rfl | rfl
    · exact h1
    · exact h2
    · exact h3
  · intro v' w' hown' hgrow hat
    obtain ⟨A', c', rfl⟩ := own_slice hown'
    have hg : w0.grownBy w' (Value.slice A n c).ownBlock :=
      ⟨hgrow.os, hgrow.tape, hgrow.output, Nat.le_trans (by simp) hgrow.size, fun k hk hne => (hgrow.block k (by simp; omega) hne).trans (Below.heap_alloc w0 _ k hk)⟩
    exact hK' _ _ (hK A' c' w' hown' hg ((Below.refl base w0).grown hg hbase (fun k hk => (hown.lt k hk).1)) (by simpa using hat))
end Go.Proofs.Ytkmgbdljiajlaaa
namespace Go.Proofs.Ytkmgbdljiajlaaa
open Go.RowKit

theorem PE.move {lo : Nat} {w : World} {v : Value} {xs : List EntryM} {css : List (List Value)} {bls : List (List Nat)} (h : PE lo w v xs css bls) {c : List Value} {x : EntryM} {bk : List Nat} (ho : shEntry.own w c x bk) (hbk : bk.Nodup) (hb : ∀ b ∈ bk, lo ≤ b ∧ b < w.heap.size) (hdis : ∀ b ∈ bk, b ∉ bls.flatten)
    {w2 : World} {v' : Value} (hown : w2.ownsRow lo 33 3 v' (xs.length + 1) (css.flatten ++ c)) (hg : w.grownBy w2 v.ownBlock) : PE lo w2 v' (xs ++ [x]) (css ++ [c]) (bls ++ [bk]) := by
  have hnd := List.nodup_append.1 h.2.2.1
  have far : ∀ b, b ∈ bls.flatten → w2.heap[b]? = w.heap[b]? := fun b hb' => hg.block b (h.2.2.2 b (List.mem_append_right _ hb')).2 fun e => hnd.2.2 b (mem_obl.2 e.symm) b hb' rfl
  have far2 : ∀ b, b ∈ bk → w2.heap[b]? = w.heap[b]? := fun b hb' => hg.block b (hb b hb').2 fun e => by
    obtain ⟨cur, t, fr, hc, hne⟩ := shEntry_blk ho hb'
    obtain ⟨cur2, fr2, hc2⟩ := row_blk h.2.1 (mem_obl.2 e.symm)
    rw [hc] at hc2
    injection hc2 with hc2
    injection hc2 with _ h5
    exact hne h5
  have hl1 := h.1.l1
  have hl2 := h.1.l2
  have hP : Parts shEntry 33 w2 v' (xs ++ [x]) (css ++ [c]) (bls ++ [bk]) := by
    refine ⟨?_, by simp [hl1], by simp [hl2], fun k c' x' bk' e1 e2 e3 => ?_⟩
    · rw [List.length_append, List.flatten_append, List.flatten_singleton]
      exact own_mono hown (Nat.zero_le _)
    · by_cases hk : k < xs.length
      · rw [List.getElem?_append_left (by omega)] at e1 e2 e3
        exact shEntry.osame (h.1.el k c' x' bk' e1 e2 e3) fun b hb' => far b (List.mem_flatten.2 ⟨_, List.mem_of_getElem? e3, hb'⟩)
      · have hk2 : k = xs.length := by
          have := (List.getElem?_eq_some_iff.1 e2).1
          simp at this
          omega
        subst hk2
        rw [List.getElem?_append_right (by omega)] at e1 e2 e3
        simp [hl1, hl2] at e1 e2 e3
        subst e1
        subst e2
        subst e3
        exact shEntry.osame ho far2
  refine ⟨hP, by rw [List.length_append, List.flatten_append]; simpa using hown, ?_⟩
  rw [List.flatten_append]
  have hz : w.heap.size ≤ w2.heap.size := hg.size
  refine ⟨?_, fun b hb' => ?_⟩
  · rw [List.nodup_append]
    refine ⟨obl_nd _, ?_, fun a ha b hb' e => ?_⟩
    · rw [List.nodup_append]
      refine ⟨hnd.2.1, by simpa using hbk, fun a ha b hb' e => ?_⟩
      simp at hb'
      subst e
      exact hdis a hb' ha
    · subst e
      obtain ⟨cur, fr, hc⟩ := row_blk hown ha
      have hb2 : a ∈ (bls ++ [bk]).flatten := by rw [List.flatten_append]; exact hb'
      obtain ⟨bq, hbq, hab⟩ := List.mem_flatten.1 hb2
      obtain ⟨k, hk⟩ := List.getElem?_of_mem hbq
      have hkl := (List.getElem?_eq_some_iff.1 hk).1
      have e1 := hP.l1
      have e2 := hP.l2
      have ho2 := hP.el k _ _ bq (List.getElem?_eq_getElem (by omega)) (List.getElem?_eq_getElem (by omega)) hk
      obtain ⟨cur2, t2, fr2, hc2, hne⟩ := shEntry_blk ho2 hab
      rw [hc] at hc2
      injection hc2 with hc2
      injection hc2 with _ h5
      exact absurd h5.symm hne
  · rcases List.mem_append.1 hb' with hb' | hb'
    · exact hown.lt b (mem_obl.1 hb')
    · rcases List.mem_append.1 hb' with hb' | hb'
      · have := h.2.2.2 b (List.mem_append_right _ hb')
        omega
      · have := hb b (by simpa using hb')
        omega

/-! ## The model -/
noncomputable def rmL (s : ByteArray) (xs : List EntryM) : List EntryM := xs.filter fun e => !eqC e.1 s
noncomputable def rmP (xs : List EntryM) (s : ByteArray) : List EntryM × Bool := if catB xs && hasS s (xs.map (·.1)) then (rmL s xs, true) else ([], false)
theorem rmL_snoc (s : ByteArray) (l : List EntryM) (e : EntryM) : rmL s (l ++ [e]) = if eqC e.1 s then rmL s l else rmL s l ++ [e] := by
  unfold rmL
  rw [List.filter_append]
  rcases h : eqC e.1 s with _ | _
  · simp [h]
  · simp [h]
theorem rmL_len (s : ByteArray) : ∀ xs : List EntryM, (rmL s xs).length ≤ xs.length ∧ ((rmL s xs).length = xs.length ↔ hasS s (xs.map (·.1)) = false)
  | [] => ⟨Nat.le_refl _, by simp [rmL, hasS]⟩
  | e :: l => by
    have ih := rmL_len s l
    have hs : hasS s ((e :: l).map (·.1)) = (eqC e.1 s || hasS s (l.map (·.1))) := by simp [hasS]
    rw [hs]
    unfold rmL at *
    rcases h : eqC e.1 s with _ | _
    · rw [List.filter_cons, h]
      simp only [Bool.not_false, if_true, List.length_cons, Bool.false_or]
      exact ⟨by omega, by rw [← ih.2]; omega⟩
    · rw [List.filter_cons, h]
      simp only [Bool.not_true, Bool.false_eq_true, if_false, List.length_cons, Bool.true_or]
      exact ⟨by omega, by constructor; · intro hh; omega
                          · intro hh; cases hh⟩
theorem rm_no1 {xs : List EntryM} {s : ByteArray} (h : catB xs = false) : rmP xs s = ([], false) := by unfold rmP; rw [h]; rfl
theorem rm_no2 {xs : List EntryM} {s : ByteArray} (h : hasS s (xs.map (·.1)) = false) : rmP xs s = ([], false) := by unfold rmP; rw [h, Bool.and_false]; rfl
theorem rm_yes {xs : List EntryM} {s : ByteArray} (h1 : catB xs = true) (h2 : hasS s (xs.map (·.1)) = true) : rmP xs s = (rmL s xs, true) := by unfold rmP; rw [h1, h2]; rfl
theorem ow_lit {w w1 : World} (h : Below w.heap.size w w1) : ∃ bl, (Sh.rows shEntry 33).own (w1.alloc (.cells #[] 33)) [.slice (some ⟨w1.heap.size, 0, none⟩) 0 0] [] bl ∧ Iv w.heap.size (w1.alloc (.cells #[] 33)).heap.size bl := by
  have hP := PE.lit (lo := w.heap.size) (w := w1) h.size
  exact ⟨_, hP.own, hP.2.2⟩
theorem nd_two {bls : List (List Nat)} (h : bls.flatten.Nodup) {j k : Nat} {bq bk : List Nat} (hj : bls[j]? = some bq) (hk : bls[k]? = some bk) (hne : j ≠ k) {b : Nat} (h1 : b ∈ bq) (h2 : b ∈ bk) : False := by
  rw [List.nodup_iff_pairwise_ne, List.pairwise_flatten] at h
  obtain ⟨hj1, hj2⟩ := List.getElem?_eq_some_iff.1 hj
  obtain ⟨hk1, hk2⟩ := List.getElem?_eq_some_iff.1 hk
  have hp := List.pairwise_iff_getElem.1 h.2
  rcases Nat.lt_or_ge j k with hl | hl
  · exact hp j k hj1 hk1 hl b (hj2 ▸ h1) b (hk2 ▸ h2) rfl
  · exact hp k j hk1 hj1 (by omega) b (hk2 ▸ h2) b (hj2 ▸ h1) rfl
set_option maxRecDepth 100000 in
set_option maxHeartbeats 8000000 in
theorem implRm_any (A : Option Addr) (n c : Nat) (xs : List EntryM) (s : ByteArray) (w : World) (h : RdN shEntry.m shEntry.rd w A n xs) (hn : xs.length + cntS shEntry.cnt xs ≤ 1048576) :
    Calls Try.prog 13 #[.slice A n c, .string s] w (OwV (Sh.rows shEntry 33) w (rmP xs s).1 (rmP xs s).2) := by
  have hle := h.le
  obtain rfl : xs.length = n := h.len
  obtain ⟨r1, HR1⟩ : ∃ r, Hid (catB xs = r) := ⟨_, rfl⟩
  have hlx : xs.length ≤ 1048576 := by omega
  rcases r1 with _ | _
  · have HM := Lib.hid (rm_no1 (s := s) HR1.out)
    rw [HM.out]
    go_enter Try.func13, Try.ntmps13
    go_wp2_with fail
    refine (isCat_any _ _ _ xs _ h).mono ?_
    rintro e w1 ⟨rfl, hb1⟩
    rw [HR1.out]
    obtain ⟨bl, ho, hiv⟩ := ow_lit hb1
    have HO := Lib.hid ho
    clear ho
    go_wp2_with fail
    go_ret2
    exact ⟨_, bl, rfl, HO.out, hiv, below_next hb1 (below_box _ _) rfl⟩
  · go_enter Try.func13, Try.ntmps13
    go_wp2_with fail
    refine (isCat_any _ _ _ xs _ h).mono ?_
    rintro e w1 ⟨rfl, hb1⟩
    rw [HR1.out]
    have hT2 := below_next hb1 (below_box w1 (.cells #[] 33)) rfl
    have hL0 : PE w.heap.size (w1.alloc (.cells #[] 33)) (.slice (some ⟨w1.heap.size, 0, none⟩) 0 0) [] [] [] := PE.lit hb1.size
    obtain ⟨w2, HW2⟩ : ∃ w2, Hid (w2 = w1.alloc (.cells #[] 33)) := ⟨_, rfl⟩
    have hz2 : w2.heap.size = w1.heap.size + 1 := by rw [HW2.out]; simp
    rw [← HW2.out] at hT2 hL0
    have HCL := Lib.hid (cloneEntries_any A xs.length c xs w2 (h.next hT2) hn)
    go_wp2_with fail
    rw [← HW2.out]
    refine HCL.out.mono ?_
    rintro e w3 ⟨vc, ccss, cbls, rfl, hC, hb3⟩
    obtain ⟨Ac, cc, rfl⟩ := own_slice hC.2.1
    have hT3 := below_next hT2 hb3 rfl
    have hL3 := hL0.next hb3
    have hdis0 : ∀ b, (Value.slice (some ⟨w1.heap.size, 0, none⟩) 0 0).ownBlock = some b → b ∉ obl (.slice Ac xs.length cc) ++ cbls.flatten := fun b hb hm => by
      have h1 := (hC.2.2.2 b hm).1
      have h2 : w1.heap.size = b := by simpa [Value.ownBlock] using hb
      omega
    clear hL0 HCL hb3
    go_wp2_with fail
    go_loopw [6, 17] (fun v i wr => ∃ (k : Nat) (css : List (List Value)) (bls : List (List Nat)), k ≤ xs.length ∧ i = .int .i64 k ∧ PE w.heap.size wr v (rmL s (xs.take k)) css bls ∧ PE w2.heap.size wr (.slice Ac xs.length cc) xs ccss cbls ∧ (∀ b, v.ownBlock = some b → b ∉ obl (.slice Ac xs.length cc) ++ cbls.flatten) ∧ (∀ b ∈ bls.flatten, ∃ j bk, j < k ∧ cbls[j]? = some bk ∧ b ∈ bk) ∧ Below w.heap.size w wr) (fun _ i _ => xs.length - (intOf i).toNat)
    case atStart => exact ⟨0, [], [], Nat.zero_le _, rfl, hL3, hC, hdis0, fun b hb => by simp at hb, hT3⟩
    case round =>
      clear hL3 hC hdis0 hT3
      obtain ⟨k, css, bls, hk, rfl, hL, hC, hdis, hsub, hT⟩ := hrel
      by_cases hlt : k < xs.length
      · have hk0 : (0 : Int) ≤ (k : Int) := by omega
        have hk1 : (k : Int) < (xs.length : Int) := by omega
        have hl1 := hC.1.l1
        have hl2 := hC.1.l2
        have hy : xs[k]? = some (xs[k]'hlt) := List.getElem?_eq_getElem hlt
        generalize xs[k]'hlt = y at hy
        have hcj : ccss[k]? = some (ccss[k]'(by omega)) := List.getElem?_eq_getElem (by omega)
        have hbj : cbls[k]? = some (cbls[k]'(by omega)) := List.getElem?_eq_getElem (by omega)
        generalize ccss[k]'(by omega) = cj at hcj
        generalize cbls[k]'(by omega) = bk at hbj
        have ho := hC.1.el k cj y bk hcj hy hbj
        obtain ⟨B, m, d, rfl, hsz, hIn, hops⟩ := rdEntry (shEntry.ord ho)
        obtain ⟨g, cap, hv⟩ := hC.1.slice hlt
        injection hv with hA _ hcc
        subst hA
        subst hcc
        have cc0 : wr.cell? ⟨g, k * 3, none⟩ = some (.string y.1) := hC.1.cell rfl hcj (i := 0) rfl
        have cc1 : wr.cell? ⟨g, k * 3 + 1, none⟩ = some (.int .i64 y.2.1) := hC.1.cell rfl hcj (i := 1) rfl
        have cc2 : wr.cell? ⟨g, k * 3 + 2, none⟩ = some (.slice B m d) := hC.1.cell rfl hcj (i := 2) rfl
        have HTS : Hid (xs.take (k + 1) = xs.take k ++ [y]) := take_snoc hy
        obtain ⟨L, HL⟩ : ∃ L, Hid (rmL s (xs.take k) = L) := ⟨_, rfl⟩
        have hLl : L.length ≤ 1048576 := by
          rw [← HL.out]
          have := (rmL_len s (xs.take k)).1
          have h2 : (xs.take k).length ≤ xs.length := by rw [List.length_take]; omega
          omega
        rw [HL.out] at hL
        obtain ⟨A', c', rfl⟩ := own_slice hL.2.1
        obtain ⟨wb, HWB⟩ : ∃ wb, Hid (wb = wr.alloc (.cells #[.string y.1, .int .i64 y.2.1, .slice B m d] 33)) := ⟨_, rfl⟩
        have hbb : Below wr.heap.size wr wb := by rw [HWB.out]; exact below_box _ _
        have BN : Blk wb wr.heap.size 33 #[.string y.1, .int .i64 y.2.1, .slice B m d] := by rw [HWB.out]; exact Blk.new _ _ _
        have Tb := below_next hT hbb rfl
        have hLb := hL.next hbb
        have hCb := hC.next hbb
        have hob := Sh.onext ho hbb
        have hndC := hC.2.2.1
        have hbkn : bk.Nodup := nd_el hndC hbj
        have hbkl : ∀ b ∈ bk, w.heap.size ≤ b ∧ b < wb.heap.size := fun b hb => by
          have := hC.2.2.2 b (List.mem_append_right _ (List.mem_flatten.2 ⟨bk, List.mem_of_getElem? hbj, hb⟩))
          have h2 := hT2.size
          have h3 := hbb.size
          omega
        have hbkd : ∀ b ∈ bk, b ∉ bls.flatten := fun b hb hm => by
          obtain ⟨j, bq, hjk, hbq, hbm⟩ := hsub b hm
          exact nd_two (List.nodup_append.1 hndC).2.1 hbq hbj (by omega) hbm hb
        have cN0 := BN.cell 0
        have cN1 := BN.cell 1
        have cN2 := BN.cell 2
        simp at cN0 cN1 cN2
        have hsub2 : ∀ b ∈ bls.flatten, ∃ j bk, j < k + 1 ∧ cbls[j]? = some bk ∧ b ∈ bk := fun b hb => by
          obtain ⟨j, bq, h1, h2, h3⟩ := hsub b hb
          exact ⟨j, bq, by omega, h2, h3⟩
        have HSUB := Lib.hid hsub2
        have HBJ := Lib.hid hbj
        have HD := Lib.hid hdis
        have HCb := Lib.hid hCb
        clear hsub hsub2 hdis hndC hcj hbj hy ho hops
        obtain ⟨sv, HSV⟩ : ∃ b, Hid (eqC y.1 s = b) := ⟨_, rfl⟩
        have hst := eqq_str HSV.out
        have hsn : (y.1.toList != s.toList) = !sv := by rw [bne, hst]
        rcases sv with _ | _
        · have HRM : Hid (rmL s (xs.take (k + 1)) = L ++ [y]) := by show _ = _; rw [HTS.out, rmL_snoc, HSV.out, HL.out]; rfl
          have hvs := hLb.2.1
          have hzb := Tb.size
          go_upto_region 7 with fail
          rw [← HWB.out]
          clear cc0 cc1 cc2
          go_wp2_with (at_builtin; refine app3at wb rfl _ _ 24 33 rfl (.agg #[.string ⟨#[]⟩, .int .i64 0, .slice none 0 0]) 48 Try.underlying24 info_entry3 rfl (by decide) w.heap.size L.length c' A' css.flatten rfl hvs (.string y.1) (.int .i64 y.2.1) (.slice B m d) rfl rfl rfl rfl (by omega) hzb ?_; intro A2 c2 w5 hown5 hg5 hb5 hat)
          have hM := hLb.move hob hbkn hbkl hbkd hown5 hg5
          have hC5 : PE w2.heap.size w5 (.slice (some ⟨g, 0, none⟩) xs.length cc) xs ccss cbls := HCb.out.same hg5.size fun b hb => hg5.block b (HCb.out.2.2.2 b hb).2 fun e => HD.out b e.symm hb
          have hd5 : ∀ b, (Value.slice A2 (L.length + 1) c2).ownBlock = some b → b ∉ obl (.slice (some ⟨g, 0, none⟩) xs.length cc) ++ cbls.flatten := fun b hb hm => by
            rcases hat with e | e
            · rw [e] at hb
              exact HD.out b hb hm
            · rw [e] at hb
              injection hb with hb
              have := (HCb.out.2.2.2 b hm).2
              omega
          have HFIN := Lib.hid (And.intro hM (And.intro hC5 (And.intro hd5 (Tb.trans hb5))))
          clear hM hC5 hd5 hown5 hg5 hb5 hat
          go_roundw
          case rel =>
            refine ⟨k + 1, _, _, by omega, by go_num, by rw [HRM.out]; exact HFIN.out.1, by first | exact HFIN.out.2.1 | (rw [← hz2]; exact HFIN.out.2.1), HFIN.out.2.2.1, fun b hb => ?_, HFIN.out.2.2.2⟩
            rw [List.flatten_append, List.mem_append] at hb
            rcases hb with hb | hb
            · exact HSUB.out b hb
            · exact ⟨k, bk, by omega, HBJ.out, by simpa using hb⟩
          case measure => simp [intOf]; omega
        · have HRM : Hid (rmL s (xs.take (k + 1)) = L) := by show _ = _; rw [HTS.out, rmL_snoc, HSV.out, HL.out]; rfl
          have HLb := Lib.hid hLb
          go_upto_region 7 with fail
          rw [← HWB.out]
          clear cc0 cc1 cc2 hLb
          go_wp2_with fail
          go_roundw
          case rel => exact ⟨k + 1, css, bls, by omega, by go_num, by rw [HRM.out]; exact HLb.out, HCb.out, HD.out, HSUB.out, Tb⟩
          case measure => simp [intOf]; omega
      · have hlt' : ¬ (k : Int) < (xs.length : Int) := by omega
        have HE : Hid (xs.take k = xs) := List.take_of_length_le (by omega)
        rw [HE.out] at hL
        have hll := rmL_len s xs
        obtain ⟨L, HL⟩ : ∃ L, Hid (rmL s xs = L) := ⟨_, rfl⟩
        rw [HL.out] at hL hll
        obtain ⟨A', c', rfl⟩ := own_slice hL.2.1
        have HLL := Lib.hid hL
        clear hC hdis hsub hL
        by_cases he : L.length = xs.length
        · have HM := Lib.hid (rm_no2 (xs := xs) (hll.2.1 he))
          rw [HM.out]
          have hc1 : ((L.length : Int) == (xs.length : Int)) = true := by simp; omega
          obtain ⟨bl, ho, hiv⟩ := ow_lit hT
          have HO := Lib.hid ho
          clear ho hll he
          go_wp2_with fail
          go_ret2
          rw [HM.out]
          exact ⟨_, bl, rfl, HO.out, hiv, below_next hT (below_box _ _) rfl⟩
        · have hh : hasS s (xs.map (·.1)) = true := by
            cases hq : hasS s (xs.map (·.1)) with
            | true => rfl
            | false => exact absurd (hll.2.2 hq) he
          have HM := Lib.hid (rm_yes HR1.out hh)
          rw [HM.out, HL.out]
          have hc1 : ((L.length : Int) == (xs.length : Int)) = false := by simp; omega
          clear hh hll he
          go_wp2_with fail
          go_ret2
          rw [HM.out, HL.out]
          exact ⟨_, _, rfl, HLL.out.own, HLL.out.2.2, hT⟩
end Go.Proofs.Ytkmgbdljiajlaaa
namespace Go.Proofs.Ytkmgbdljiajlaaa
open Go.RowKit

/-! ## Raw rows of entries -/
theorem choose_row {α : Type} {p : Nat → α → Prop} (n : Nat) (h : ∀ (k : Nat), k < n → ∃ x, p k x) : ∃ l : List α, l.length = n ∧ ∀ (k : Nat) x, l[k]? = some x → p k x := by
  induction n with
  | zero => exact ⟨[], rfl, fun k x hx => by simp at hx⟩
  | succ n ih =>
    obtain ⟨l, hl, hp⟩ := ih fun k hk => h k (by omega)
    obtain ⟨x, hx⟩ := h n (by omega)
    refine ⟨l ++ [x], by simp [hl], fun k y hy => ?_⟩
    rcases Nat.lt_or_ge k n with _ | _
    · rw [List.getElem?_append_left (by omega)] at hy
      exact hp k y hy
    · have hk2 := (List.getElem?_eq_some_iff.1 hy).1
      simp at hk2
      have hkn : k = n := by omega
      subst hkn
      rw [List.getElem?_append_right (by omega), hl, Nat.sub_self] at hy
      simp at hy
      subst hy
      exact hx
theorem rawE {w : World} {b o n : Nat} {xs : List EntryM} (h : RdN shEntry.m shEntry.rd w (some ⟨b, o, none⟩) n xs) :
    ∃ css : List (List Value), css.length = n ∧ (∀ c ∈ css, c.length = 3) ∧ (∀ c ∈ css, ∀ u ∈ c, u.oneCell' = true) ∧ (∀ (k : Nat) cs, css[k]? = some cs → ∀ (i : Nat) v, cs[i]? = some v → w.cell? ⟨b, o + k * 3 + i, none⟩ = some v) ∧ ∀ (k : Nat) cs x, css[k]? = some cs → xs[k]? = some x → shEntry.rd w cs x := by
  obtain ⟨css, hl, hp⟩ := choose_row (p := fun k (cs : List Value) => ∃ x, xs[k]? = some x ∧ cs.length = 3 ∧ (∀ (i : Nat) v, cs[i]? = some v → w.cell? ⟨b, o + k * 3 + i, none⟩ = some v) ∧ shEntry.rd w cs x) n (fun k hk => by
    obtain ⟨b', o', vs, x, e, hm, hc, hr, -, hx⟩ := h.at hk
    injection e with e
    injection e with e1 e2 _
    subst e1
    subst e2
    exact ⟨vs, x, hx, hm, hc, hr⟩)
  refine ⟨css, hl, fun c hc => ?_, fun c hc u hu => ?_, fun k cs hk i v hv => ?_, fun k cs x hk hx => ?_⟩
  · obtain ⟨k, hk⟩ := List.getElem?_of_mem hc
    obtain ⟨x, -, h3, -⟩ := hp k c hk
    exact h3
  · obtain ⟨k, hk⟩ := List.getElem?_of_mem hc
    obtain ⟨x, -, -, -, hr⟩ := hp k c hk
    obtain ⟨B, m, d, rfl, -⟩ := rdEntry hr
    simp at hu
    rcases hu with rfl | rfl | rfl <;> rfl
  · obtain ⟨x, -, -, h4, -⟩ := hp k cs hk
    exact h4 i v hv
  · obtain ⟨y, hy, -, -, hr⟩ := hp k cs hk
    rw [hx] at hy
    injection hy with hy
    rw [hy]
    exact hr
theorem raw_cells {w : World} {b o : Nat} {css : List (List Value)} (hall : ∀ c ∈ css, c.length = 3) (hc : ∀ (k : Nat) cs, css[k]? = some cs → ∀ (i : Nat) v, cs[i]? = some v → w.cell? ⟨b, o + k * 3 + i, none⟩ = some v) (a m : Nat) :
    ∀ (j : Nat) u, ((css.drop a).take m).flatten[j]? = some u → w.cell? ((⟨b, o + a * 3, none⟩ : Addr).add j) = some u := by
  intro j u hj
  have hall' : ∀ c ∈ (css.drop a).take m, c.length = 3 := fun c h => hall c (List.mem_of_mem_drop (List.mem_of_mem_take h))
  have hr : j % 3 < 3 := Nat.mod_lt _ (by decide)
  have ej : j = j / 3 * 3 + j % 3 := by omega
  rw [ej, flat_get hall' (j / 3) (j % 3) hr] at hj
  have ea : (⟨b, o + a * 3, none⟩ : Addr).add j = ⟨b, o + (a + j / 3) * 3 + j % 3, none⟩ := by
    have : (⟨b, o + a * 3, none⟩ : Addr).add j = ⟨b, o + a * 3 + j, none⟩ := by
      unfold Addr.add
      split
      · rename_i h0; rw [h0]; rfl
      · rfl
    rw [this]
    congr 1
    omega
  rw [ea]
  cases hq : ((css.drop a).take m)[j / 3]? with
  | none => rw [hq] at hj; simp at hj
  | some cs =>
    rw [hq] at hj
    have hcs : css[a + j / 3]? = some cs := by
      rw [List.getElem?_take] at hq
      split at hq
      · rwa [List.getElem?_drop] at hq
      · cases hq
    exact hc _ cs hcs _ _ hj
theorem rdE_of_rows {w : World} {base n c : Nat} {A : Option Addr} {css : List (List Value)} {xs : List EntryM} (h : w.ownsRow base 33 3 (.slice A n c) n css.flatten) (hall : ∀ c ∈ css, c.length = 3) (hl : css.length = n) (hx : xs.length = n)
    (hR : ∀ (k : Nat) cs x, css[k]? = some cs → xs[k]? = some x → shEntry.rd w cs x) : RdN shEntry.m shEntry.rd w A n xs := by
  refine ⟨hx, own_len_le h, fun k x hk => ?_⟩
  have hkl := (List.getElem?_eq_some_iff.1 hk).1
  have hc : css[k]? = some (css[k]'(by omega)) := List.getElem?_eq_getElem (by omega)
  obtain ⟨g, rfl⟩ : ∃ g, A = some ⟨g, 0, none⟩ := by
    rcases h.2 with ⟨_, h0⟩ | ⟨g, cap, cur, h0, _⟩
    · omega
    · injection h0 with h0
      exact ⟨g, h0⟩
  have hcl := hall _ (List.mem_of_getElem? hc)
  refine ⟨g, 0, _, rfl, hcl, fun i u hi => ?_, hR k _ x hc hk⟩
  have him : i < 3 := by have := (List.getElem?_eq_some_iff.1 hi).1; omega
  have hlt : k * 3 + i < n * 3 := by omega
  show w.cell? ⟨g, 0 + k * 3 + i, none⟩ = some u
  rw [Nat.zero_add, h.cellAt _ hlt, flat_get hall k i him, hc]
  exact hi
theorem own_lit (w : World) : (w.alloc (.cells #[] 33)).ownsRow w.heap.size 33 3 (.slice (some ⟨w.heap.size, 0, none⟩) 0 0) 0 [] :=
  (PE.lit (lo := w.heap.size) (w := w) (Nat.le_refl _)).2.1
theorem step_appN {P : Program} (w : World) {ops : Array Oper} {o : Oper} {a : Act} {K : Act → World → Prop} {Q : Exit → Act → World → Prop} {E : Prop} (hgd : o.guard = none) (s x : Operand) (t e : TypeId)
    (ho : o.op = .call { callee := .builtin .append, args := #[s, x], argTypes := #[t, t] }) (z : Value) (bytes : Nat)
    (ht : P.underlying t = some (.slice e)) (hi : (P.info? e).map (fun i => (i.zero, i.size, i.bytes)) = some (some z, 3, bytes)) (hzs : z.cells.size = 3) (hbb : bytes ≤ 64)
    (base n c : Nat) (A : Option Addr) (xs : List Value) (hs : a.eval s = .slice A n c) (hown : w.ownsRow base e 3 (.slice A n c) n xs)
    (ad : Addr) (m c2 : Nat) (news : List Value) (hx : a.eval x = .slice (some ad) m c2) (hl : news.length = m * 3) (hnews : ∀ j u, news[j]? = some u → w.cell? (ad.add j) = some u) (h1 : ∀ u ∈ news, u.oneCell' = true)
    (hn : n + m ≤ 1048576) (hbase : base ≤ w.heap.size)
    (hK : ∀ A' c' w', w'.ownsRow base e 3 (.slice A' (n + m) c') (n + m) (xs ++ news) → w.grownBy w' (Value.slice A n c).ownBlock → Below base w w' → K (a.put o.dst (.slice A' (n + m) c')) w') :
    if Region.wanted o (yielded ops a.tmps) = true then Oper.wp P o a w K Q else E := by
  have hw : Region.wanted o (yielded ops a.tmps) = true := by simp [Region.wanted, hgd]
  rw [if_pos hw]
  obtain ⟨i, hi, hz, hsize, hby⟩ := info_parts hi
  have hbound : (n + m) * bytes ≤ 140737488355328 := Nat.le_trans (Nat.mul_le_mul_left (n + m) hbb) (by omega)
  refine wp_append_at w s x t ho base e i z 3 bytes ht hi hz hsize hby hzs (by omega) (.slice A n c) n xs hs hown ad m c2 news hx hl hnews h1 (by unfold maxLen; omega) hbound hbase fun v' w' h2 h3 _ => ?_
  obtain ⟨A', c', rfl⟩ := own_slice h2
  refine hK A' c' w' h2 h3 ?_
  exact own_grown_below (Below.refl _ _) h3 hbase fun k hk => (hown.lt k hk).1

/-! ## The plain law -/
theorem catF_at : ∀ (k : Nat) (xs pre : List EntryM), catF pre xs = true → catF (pre ++ xs.take k) (xs.drop k) = true
  | 0, xs, pre, h => by simpa using h
  | k + 1, [], pre, h => by simpa using h
  | k + 1, y :: l, pre, h => by
    rw [catF, Bool.and_eq_true] at h
    have := catF_at k l (pre ++ [y]) h.2
    simpa using this
theorem catF_name : ∀ (l pre : List EntryM), catF pre l = true → ∀ e ∈ l, nameB e.1 = true
  | [], _, _, e, he => by simp at he
  | y :: l, pre, h, e, he => by
    rw [catF, Bool.and_eq_true] at h
    rcases List.mem_cons.1 he with rfl | he
    · have h1 := h.1
      unfold okE at h1
      rw [Bool.and_eq_true] at h1
      exact h1.1
    · exact catF_name l _ h.2 e he
theorem cat_two {xs : List EntryM} (h : catB xs = true) : xs.length ≤ 12 ∧ catF [] xs = true := by
  unfold catB at h
  rw [Bool.and_eq_true] at h
  exact ⟨of_decide_eq_true h.1, h.2⟩
end Go.Proofs.Ytkmgbdljiajlaaa
namespace Go.Proofs.Ytkmgbdljiajlaaa
open Go.RowKit

/-! ## The place of a model -/
def posL (y : AlgebraM) : List EntryM → Nat
  | [] => 0
  | x :: l => if befB x.2 y then posL y l + 1 else 0
theorem posL_le (y : AlgebraM) : ∀ xs : List EntryM, posL y xs ≤ xs.length
  | [] => Nat.le_refl _
  | x :: l => by
    have := posL_le y l
    rw [posL, List.length_cons]
    split <;> omega
noncomputable def insM (xs : List EntryM) (e : EntryM) : List EntryM := xs.take (posL e.2 xs) ++ e :: xs.drop (posL e.2 xs)
noncomputable def dupB (xs : List EntryM) (e : EntryM) : Bool := match xs[posL e.2 xs]? with | none => false | some x => eqC x.2 e.2
theorem insM_len (xs : List EntryM) (e : EntryM) : (insM xs e).length = xs.length + 1 := by
  have := posL_le e.2 xs
  unfold insM
  rw [List.length_append, List.length_take, List.length_cons, List.length_drop]
  omega
theorem insM_mem {xs : List EntryM} {e x : EntryM} : x ∈ insM xs e ↔ x = e ∨ x ∈ xs := by
  unfold insM
  rw [List.mem_append, List.mem_cons]
  constructor
  · rintro (h | h | h)
    · exact .inr (List.mem_of_mem_take h)
    · exact .inl h
    · exact .inr (List.mem_of_mem_drop h)
  · rintro (h | h)
    · exact .inr (.inl h)
    · rw [← List.take_append_drop (posL e.2 xs) xs] at h
      rcases List.mem_append.1 h with h | h
      · exact .inl h
      · exact .inr (.inr h)
def PosAt (y : AlgebraM) (xs : List EntryM) (k : Nat) : Prop := posL y xs = k + posL y (xs.drop k)
theorem PosAt.start (y : AlgebraM) (xs : List EntryM) : PosAt y xs 0 := by unfold PosAt; simp
theorem PosAt.step {y : AlgebraM} {xs : List EntryM} {k : Nat} {x : EntryM} (h : PosAt y xs k) (hx : xs[k]? = some x) (hb : befB x.2 y = true) : PosAt y xs (k + 1) := by
  unfold PosAt at *
  obtain ⟨h1, h2⟩ := List.getElem?_eq_some_iff.1 hx
  rw [List.drop_eq_getElem_cons h1, h2, posL, if_pos hb] at h
  omega
theorem PosAt.stop {y : AlgebraM} {xs : List EntryM} {k : Nat} {x : EntryM} (h : PosAt y xs k) (hx : xs[k]? = some x) (hb : befB x.2 y = false) : posL y xs = k := by
  unfold PosAt at *
  obtain ⟨h1, h2⟩ := List.getElem?_eq_some_iff.1 hx
  rw [List.drop_eq_getElem_cons h1, h2, posL, if_neg (by rw [hb]; decide)] at h
  exact h
theorem PosAt.done {y : AlgebraM} {xs : List EntryM} {k : Nat} (h : PosAt y xs k) (hk : ¬ k < xs.length) : posL y xs = k := by
  unfold PosAt at h
  rw [List.drop_eq_nil_of_le (by omega), posL] at h
  exact h
theorem dup_at {xs : List EntryM} {e x : EntryM} {k : Nat} (hp : posL e.2 xs = k) (hx : xs[k]? = some x) : dupB xs e = eqC x.2 e.2 := by unfold dupB; rw [hp, hx]
theorem dup_end {xs : List EntryM} {e : EntryM} {k : Nat} (hp : posL e.2 xs = k) (hk : ¬ k < xs.length) : dupB xs e = false := by unfold dupB; rw [hp, List.getElem?_eq_none (by omega)]
theorem insM_at {xs : List EntryM} {e : EntryM} {k : Nat} (hp : posL e.2 xs = k) : insM xs e = xs.take k ++ e :: xs.drop k := by unfold insM; rw [hp]

/-! ## append beyond the room -/
theorem run_append_new {P : Program} (w : World) (t ty e : TypeId) (i : TypeInfo) (z : Value) (size bytes : Nat) (ht : P.underlying t = some (.slice e)) (hi : P.info? e = some i) (hz : i.zero = some z)
    (hsize : i.size = size) (hby : i.bytes = bytes) (hzs : z.cells.size = size) (A : Option Addr) (n c : Nat) (olds : List Value) (hlo : olds.length = n * size)
    (hA : (A = none ∧ n = 0 ∧ c = 0) ∨ ∃ b, A = some b ∧ ∀ j v, olds[j]? = some v → w.cell? (b.add j) = some v)
    (a : Addr) (m d : Nat) (news : List Value) (hl : news.length = m * size) (hnews : ∀ j u, news[j]? = some u → w.cell? (a.add j) = some u) (hm : 0 < m) (hc : c < n + m)
    (h63 : n + m ≤ maxLen) (hbytes : (n + m) * bytes ≤ 140737488355328) :
    ∃ v' w', (Builtin.append_ #[t, t] ty #[.slice A n c, .slice (some a) m d]).run P w = .ok v' w' ∧ w'.ownsRow w.heap.size e size v' (n + m) (olds ++ news) ∧ Below w.heap.size w w' := by
  subst hsize
  subst hby
  have hsmall : n + m ≤ 9223372036854775807 := by simp only [maxLen] at h63; omega
  have hlen : (olds ++ news).length = (n + m) * i.size := by rw [List.length_append, hlo, hl, Nat.add_mul]
  have grown : ∀ (old : Nat), old < n + m →
      (w.drew.alloc (.cells (olds.toArray ++ news.toArray ++ Builtin.zeroCells z.cells (grownCap w (n + m) old e - (n + m))) e)).ownsRow w.heap.size e i.size
        (.slice (some ⟨w.heap.size, 0, none⟩) (n + m) (grownCap w (n + m) old e)) (n + m) (olds ++ news) ∧
      Below w.heap.size w (w.drew.alloc (.cells (olds.toArray ++ news.toArray ++ Builtin.zeroCells z.cells (grownCap w (n + m) old e - (n + m))) e)) := by
    intro old ho
    have hge := grownCap_ge w (n + m) old e
    have hcm : grownCap w (n + m) old e ≤ maxLen := grownCap_le_maxLen w (n + m) old e h63
    refine ⟨⟨hlen, .inr ⟨w.heap.size, _, _, rfl, Nat.le_refl _, heap_alloc_new w.drew _, hge, hcm, ?_, ?_⟩⟩, (Below.drew (Below.refl _ _)).alloc (Nat.le_refl _) _⟩
    · simp only [Array.size_append, List.size_toArray, size_zeroCells, hzs, hlo, hl, ← Nat.add_mul]
      congr 1
      omega
    · simp only [Array.toList_append, List.append_assoc]
      rw [← List.append_assoc, ← hlen]
      exact List.take_left
  rcases hA with ⟨rfl, rfl, rfl⟩ | ⟨b, rfl, holds⟩
  · have hx : olds = [] := List.eq_nil_of_length_eq_zero (by simpa using hlo)
    subst hx
    have hr := run_append_nil (P := P) w t ty e i z ht hi hz a m d news hl hnews (by omega) (by omega) (by have hb := hbytes; simp only [Nat.zero_add] at hb; omega)
    have hgr := grown 0 (by omega)
    simp only [Nat.zero_add, List.nil_append, Array.empty_append] at hgr ⊢
    exact ⟨_, _, hr, hgr.1, hgr.2⟩
  · have hr := run_append_grow (P := P) w t ty e i z ht hi hz b n c olds hlo holds a m d news hl hnews hc (by omega) (growslice_fits hc hbytes)
    have hgr := grown c hc
    exact ⟨_, _, hr, hgr.1, hgr.2⟩
theorem app_new {P : Program} (w : World) {ops : Array Oper} {rest : List Oper} {o : Oper} {a : Act} {Q : Exit → Act → World → Prop} (hgd : o.guard = none) (s x : Operand) (t e : TypeId)
    (ho : o.op = .call { callee := .builtin .append, args := #[s, x], argTypes := #[t, t] }) (z : Value) (bytes size : Nat)
    (ht : P.underlying t = some (.slice e)) (hi : (P.info? e).map (fun i => (i.zero, i.size, i.bytes)) = some (some z, size, bytes)) (hzs : z.cells.size = size) (hbb : bytes ≤ 64)
    (A : Option Addr) (n c : Nat) (olds : List Value) (hs : a.eval s = .slice A n c) (hlo : olds.length = n * size) (hA : (A = none ∧ n = 0 ∧ c = 0) ∨ ∃ b, A = some b ∧ ∀ j v, olds[j]? = some v → w.cell? (b.add j) = some v)
    (ad : Addr) (m d : Nat) (news : List Value) (hx : a.eval x = .slice (some ad) m d) (hl : news.length = m * size) (hnews : ∀ j u, news[j]? = some u → w.cell? (ad.add j) = some u) (hm : 0 < m) (hc : c < n + m) (hn : n + m ≤ 1099511627776)
    (hK : ∀ A' c' w', w'.ownsRow w.heap.size e size (.slice A' (n + m) c') (n + m) (olds ++ news) → Below w.heap.size w w' → wpList P ops Q rest (a.put o.dst (.slice A' (n + m) c')) w') :
    wpList P ops Q (o :: rest) a w := by
  obtain ⟨i, hi, hz, hsize, hby⟩ := info_parts hi
  have hbound : (n + m) * bytes ≤ 140737488355328 := Nat.le_trans (Nat.mul_le_mul_left (n + m) hbb) (by omega)
  obtain ⟨v', w', hr, h2, h3⟩ := run_append_new (P := P) w t o.type e i z size bytes ht hi hz hsize hby hzs A n c olds hlo hA ad m d news hl hnews hm hc (by unfold maxLen; omega) hbound
  refine wpList_plain hgd fun _ hK' => ?_
  unfold Oper.wp execOp
  simp only [ho, resolve, invoke, builtin, Sem.run_bind, Sem.run_pure, Result.andThen_ok, List.map_toArray, List.map_cons, List.map_nil, hs, hx, hr]
  obtain ⟨A', c', rfl⟩ := own_slice h2
  exact hK' _ _ (hK A' c' w' h2 h3)

/-! ## One entry more among the call's own -/
theorem flat_ins {α : Type} (bls : List (List α)) (bk : List α) (k : Nat) : (bls.take k ++ bk :: bls.drop k).flatten.Perm (bk ++ bls.flatten) := by
  have e : bls.flatten = (bls.take k).flatten ++ (bls.drop k).flatten := by rw [← List.flatten_append, List.take_append_drop]
  rw [List.flatten_append, List.flatten_cons, e]
  exact List.perm_append_comm_assoc ..
theorem ins_get {α : Type} {l : List α} {x : α} {k : Nat} (hk : k ≤ l.length) (j : Nat) : (l.take k ++ x :: l.drop k)[j]? = if j < k then l[j]? else if j = k then some x else l[j - 1]? := by
  have hl : (l.take k).length = k := by rw [List.length_take]; omega
  split
  · rename_i h
    rw [List.getElem?_append_left (by omega), List.getElem?_take, if_pos h]
  · rename_i h
    rw [List.getElem?_append_right (by omega), hl]
    split
    · rename_i h2
      subst h2
      simp
    · rename_i h2
      obtain ⟨i, hi⟩ : ∃ i, j = k + 1 + i := ⟨j - (k + 1), by omega⟩
      subst hi
      rw [show k + 1 + i - k = i + 1 from by omega, List.getElem?_cons_succ, List.getElem?_drop, show k + 1 + i - 1 = k + i from by omega]
theorem PE.ins {lo : Nat} {w w' : World} {v v' : Value} {xs : List EntryM} {css : List (List Value)} {bls : List (List Nat)} (h : PE lo w v xs css bls) {ce : List Value} {e : EntryM} {bk : List Nat} (ho : shEntry.own w ce e bk) (hbk : bk.Nodup)
    (hb : ∀ b ∈ bk, lo ≤ b ∧ b < w.heap.size) (hdis : ∀ b ∈ bk, b ∉ bls.flatten) {k : Nat} (hk : k ≤ xs.length) (hlo : lo ≤ w.heap.size) (hT : Below w.heap.size w w')
    (hown : w'.ownsRow w.heap.size 33 3 v' (xs.length + 1) (css.take k ++ ce :: css.drop k).flatten) :
    PE lo w' v' (xs.take k ++ e :: xs.drop k) (css.take k ++ ce :: css.drop k) (bls.take k ++ bk :: bls.drop k) := by
  have hl1 := h.1.l1
  have hl2 := h.1.l2
  have hlx : (xs.take k ++ e :: xs.drop k).length = xs.length + 1 := by simp; omega
  have hlc : (css.take k ++ ce :: css.drop k).length = xs.length + 1 := by simp; omega
  have hlb : (bls.take k ++ bk :: bls.drop k).length = xs.length + 1 := by simp; omega
  have hnd := List.nodup_append.1 h.2.2.1
  have hP := flat_ins bls bk k
  refine ⟨⟨by rw [hlx]; exact own_mono hown (Nat.zero_le _), by omega, by omega, fun j c x bq e1 e2 e3 => ?_⟩, by rw [hlx]; exact own_mono hown hlo, ?_⟩
  · rw [ins_get (by omega)] at e1 e2 e3
    by_cases h1 : j < k
    · rw [if_pos h1] at e1 e2 e3
      exact shEntry.osame (h.1.el j c x bq e1 e2 e3) fun b hb' => hT.block b (h.2.2.2 b (List.mem_append_right _ (List.mem_flatten.2 ⟨_, List.mem_of_getElem? e3, hb'⟩))).2
    · rw [if_neg h1] at e1 e2 e3
      by_cases h2 : j = k
      · rw [if_pos h2] at e1 e2 e3
        injection e1 with e1
        injection e2 with e2
        injection e3 with e3
        subst e1
        subst e2
        subst e3
        exact shEntry.osame ho fun b hb' => hT.block b (hb b hb').2
      · rw [if_neg h2] at e1 e2 e3
        exact shEntry.osame (h.1.el (j - 1) c x bq e1 e2 e3) fun b hb' => hT.block b (h.2.2.2 b (List.mem_append_right _ (List.mem_flatten.2 ⟨_, List.mem_of_getElem? e3, hb'⟩))).2
  · have hsz := hT.size
    refine ⟨?_, fun b hb' => ?_⟩
    · rw [List.nodup_append]
      refine ⟨obl_nd _, ?_, fun a ha b hb' e => ?_⟩
      · rw [hP.nodup_iff, List.nodup_append]
        exact ⟨hbk, hnd.2.1, fun a ha b hb' e => hdis a ha (e ▸ hb')⟩
      · subst e
        have h3 := (hown.lt a (mem_obl.1 ha)).1
        rcases List.mem_append.1 (hP.mem_iff.1 hb') with h4 | h4
        · have := (hb a h4).2; omega
        · have := (h.2.2.2 a (List.mem_append_right _ h4)).2; omega
    · rcases List.mem_append.1 hb' with h4 | h4
      · have := hown.lt b (mem_obl.1 h4); omega
      · rcases List.mem_append.1 (hP.mem_iff.1 h4) with h5 | h5
        · have := hb b h5; omega
        · have := h.2.2.2 b (List.mem_append_right _ h5); omega
end Go.Proofs.Ytkmgbdljiajlaaa
namespace Go.Proofs.Ytkmgbdljiajlaaa
open Go.RowKit

theorem own_formE {w : World} {base : Nat} {e : TypeId} {size : Nat} {A : Option Addr} {n c : Nat} {xs : List Value} (h : w.ownsRow base e size (.slice A n c) n xs) (hn : 0 < n) : ∃ g, A = some ⟨g, 0, none⟩ ∧ base ≤ g ∧ n ≤ c := by
  rcases h.2 with ⟨h0, h1⟩ | ⟨g, cap, cur, hv, hb, _, hnc, _⟩
  · omega
  · injection hv with hA _ hc
    exact ⟨g, hA, hb, by omega⟩
section
variable {lo k : Nat} {w : World} {v : Value} {xs : List EntryM} {css : List (List Value)} {bls : List (List Nat)}
theorem with_all (h : PE lo w v xs css bls) : ∀ c ∈ css, c.length = 3 := h.1.all
theorem with_len (h : PE lo w v xs css bls) (_hk : k ≤ xs.length) : (css.drop k).flatten.length = (xs.length - k) * 3 := by
  rw [flat_len (m := 3) fun c hc => with_all h c (List.mem_of_mem_drop hc), List.length_drop, h.1.l1]
theorem with_lent (h : PE lo w v xs css bls) (hk : k ≤ xs.length) : (css.take k).flatten.length = k * 3 := by
  have := h.1.l1
  rw [flat_len (m := 3) fun c hc => with_all h c (List.mem_of_mem_take hc), List.length_take, Nat.min_eq_left (by omega)]
theorem with_split (css : List (List Value)) (k : Nat) : css.flatten = (css.take k).flatten ++ (css.drop k).flatten := by rw [← List.flatten_append, List.take_append_drop]
theorem with_olds {g n c : Nat} (h : PE lo w (.slice (some ⟨g, 0, none⟩) n c) xs css bls) : ∀ j u, (css.take k).flatten[j]? = some u → w.cell? ((⟨g, 0, none⟩ : Addr).add j) = some u := fun j u hu => by
  refine h.2.1.cells (g := g) rfl j u ?_
  have hj := (List.getElem?_eq_some_iff.1 hu).1
  rw [with_split css k, List.getElem?_append_left hj]
  exact hu
theorem with_news {g n c : Nat} (h : PE lo w (.slice (some ⟨g, 0, none⟩) n c) xs css bls) (hk : k ≤ xs.length) : ∀ j u, (css.drop k).flatten[j]? = some u → w.cell? ((⟨g, k * 3, none⟩ : Addr).add j) = some u := fun j u hu => by
  have hl := with_lent h hk
  have := h.2.1.cells (g := g) rfl (k * 3 + j) u (by rw [with_split css k, List.getElem?_append_right (by omega), hl, Nat.add_sub_cancel_left]; exact hu)
  have e : ∀ (o j : Nat), (⟨g, o, none⟩ : Addr).add j = ⟨g, o + j, none⟩ := fun o j => by
    unfold Addr.add
    split
    · rename_i h0; subst h0; rfl
    · rfl
  rw [e] at this ⊢
  rw [Nat.zero_add] at this
  exact this
theorem with_one (h : PE lo w v xs css bls) : ∀ u ∈ (css.drop k).flatten, u.oneCell' = true := fun u hu => by
  obtain ⟨c, hc, hu⟩ := List.mem_flatten.1 hu
  obtain ⟨j, hj⟩ := List.getElem?_of_mem (List.mem_of_mem_drop hc)
  have hjl := (List.getElem?_eq_some_iff.1 hj).1
  have e1 := h.1.l1
  have e2 := h.1.l2
  have ho := h.1.el j c _ _ hj (List.getElem?_eq_getElem (by omega)) (List.getElem?_eq_getElem (by omega))
  obtain ⟨B, m, d, rfl, -, -, -⟩ := rdEntry (shEntry.ord ho)
  simp at hu
  rcases hu with rfl | rfl | rfl <;> rfl
theorem with_flat (css : List (List Value)) (ce : List Value) (k : Nat) : (css.take k ++ ce :: css.drop k).flatten = (css.take k).flatten ++ (ce ++ (css.drop k).flatten) := by rw [List.flatten_append, List.flatten_cons]
end
def WithR (lo : Nat) (w : World) (xs : List EntryM) (e : EntryM) (bls : List (List Nat)) (bk : List Nat) (e' : Ending) (w' : World) : Prop :=
  ∃ A n c css' bls', e' = .returned (.tuple #[.slice A n c, .bool (!dupB xs e)]) ∧ PE lo w' (.slice A n c) (if dupB xs e = true then xs else insM xs e) css' bls' ∧ Below w.heap.size w w' ∧ ∀ b ∈ List.flatten bls', b ∈ bls.flatten ∨ b ∈ bk
set_option linter.unusedVariables false in
set_option linter.unusedSimpArgs false in
set_option maxRecDepth 100000 in
set_option maxHeartbeats 16000000 in
theorem withEntry_some (lo g c : Nat) (xs : List EntryM) (css : List (List Value)) (bls : List (List Nat)) (e : EntryM) (V : Option Addr) (m d : Nat) (bk : List Nat) (w : World)
    (hP : PE lo w (.slice (some ⟨g, 0, none⟩) xs.length c) xs css bls) (ho : shEntry.own w [.string e.1, .int .i64 e.2.1, .slice V m d] e bk) (hbk : bk.Nodup) (hb : ∀ b ∈ bk, lo ≤ b ∧ b < w.heap.size) (hdis : ∀ b ∈ bk, b ∉ bls.flatten) (hlo : lo ≤ w.heap.size)
    (hS : ∀ x ∈ xs, SmallP x.2) (he : SmallP e.2) (hl : xs.length ≤ 1048575) :
    Calls Try.prog 44 #[.slice (some ⟨g, 0, none⟩) xs.length c, .agg #[.string e.1, .int .i64 e.2.1, .slice V m d]] w (WithR lo w xs e bls bk) := by
  obtain ⟨B', m', d', hce, hsz, hIn, hops⟩ := rdEntry (shEntry.ord ho)
  simp only [List.cons.injEq, Value.slice.injEq, and_true, true_and] at hce
  obtain ⟨rfl, rfl, rfl⟩ := hce
  have hre := mkAlgebra (cOps := d) hIn hops
  obtain ⟨w0, hw0, T0, hsz0, BP⟩ := boxes1 w #[.string e.1, .int .i64 e.2.1, .slice V m d] 33
  have HW0 := Lib.hid hw0
  have hgc : xs.length ≤ c := by
    rcases hP.2.1.2 with ⟨e', h0⟩ | ⟨g', cap, cur, e', -, -, h1, -⟩
    · injection e' with e1 _ _
      cases e1
    · injection e' with _ _ e3
      omega
  have HSM := Lib.hid hS
  clear hw0 hops hS
  go_enter Try.func44, Try.ntmps44
  go_wp2_with fail
  rw [← HW0.out]
  go_loopw [6] (fun i wr => ∃ k : Nat, k ≤ xs.length ∧ i = .int .i64 k ∧ Hid (PosAt e.2 xs k) ∧ Below w0.heap.size w0 wr) (fun i _ => xs.length - (intOf i).toNat)
  case atStart => exact ⟨0, Nat.zero_le _, rfl, PosAt.start _ _, Below.refl _ _⟩
  case round =>
    obtain ⟨k, hk, rfl, HPA, hT⟩ := hrel
    have hTw := below_next T0 hT rfl
    have hPr := hP.next hTw
    have Tk : Below wr.heap.size wr wr := Below.refl _ _
    have cb1 := (BP.next hT).cell 1
    have cb2 := (BP.next hT).cell 2
    simp at cb1 cb2
    by_cases hlt : k < xs.length
    · have hk0 : (0 : Int) ≤ (k : Int) := by omega
      have hk1 : (k : Int) < (xs.length : Int) := by omega
      have hl1 := hPr.1.l1
      have hl2 := hPr.1.l2
      have hy : xs[k]? = some (xs[k]'hlt) := List.getElem?_eq_getElem hlt
      generalize xs[k]'hlt = y at hy
      have hcj : css[k]? = some (css[k]'(by omega)) := List.getElem?_eq_getElem (by omega)
      have hbj : bls[k]? = some (bls[k]'(by omega)) := List.getElem?_eq_getElem (by omega)
      generalize css[k]'(by omega) = cj at hcj
      generalize bls[k]'(by omega) = bj at hbj
      have hoy := hPr.1.el k cj y bj hcj hy hbj
      obtain ⟨B, q, r, rfl, hszy, hIny, hopsy⟩ := rdEntry (shEntry.ord hoy)
      have hry := mkAlgebra (cOps := r) hIny hopsy
      have cc1 : wr.cell? ⟨g, k * 3 + 1, none⟩ = some (.int .i64 y.2.1) := hPr.1.cell rfl hcj (i := 1) rfl
      have cc2 : wr.cell? ⟨g, k * 3 + 2, none⟩ = some (.slice B q r) := hPr.1.cell rfl hcj (i := 2) rfl
      have hsy := HSM.out y (List.mem_of_getElem? hy)
      obtain ⟨cv, HCV⟩ : ∃ cv, Hid (cmpI y.2 e.2 = cv) := ⟨_, rfl⟩
      have HC : ∀ wz, Below wr.heap.size wr wz → Calls Try.prog 54 #[.agg #[.int .i64 y.2.1, .slice B q r], .agg #[.int .i64 e.2.1, .slice V m d]] wz (Bl wz (.int .i64 cv)) := fun wz hz => by
        have h1 := compareModels_any [.int .i64 y.2.1, .slice B q r] [.int .i64 e.2.1, .slice V m d] y.2 e.2 wz (shAlgebra.stab hry hz.block) (shAlgebra.stab (shAlgebra.stab hre hTw.block) hz.block) hsy he
        rw [HCV.out] at h1
        exact h1
      have HZ : Hid (cv = 0 ↔ eqC y.2 e.2 = true) := by
        show _ ↔ _
        rw [← HCV.out, cmpI_zero hsy he, eqC_iff]
      have HY := Lib.hid hy
      clear hoy hy hcj hbj hopsy hry hszy hIny
      by_cases hcv : cv < 0
      · have HB : Hid (befB y.2 e.2 = true) := by show _ = _; rw [befB_cmp, HCV.out, decide_eq_true hcv]
        go_wp2_with fail
        refine wp_region_held_drew (S := fun w' => w'.cell? ⟨g, k * 3 + 1, none⟩ = some (.int .i64 y.2.1) ∧ w'.cell? ⟨g, k * 3 + 2, none⟩ = some (.slice B q r) ∧ w'.cell? ⟨w.heap.size, 1, none⟩ = some (.int .i64 e.2.1) ∧ w'.cell? ⟨w.heap.size, 2, none⟩ = some (.slice V m d)) (by kernel_rfl) ⟨cc1, cc2, cb1, cb2⟩ (fun hHeld0 => ?_)
        refine wpAnyH_take (i := 0) (v := .int .i64 k) rfl (by kernel_rfl) (by kernel_rfl) (by kernel_rfl) (fun _ _ _ h => h) (Or.inl ⟨by kernel_rfl, fun _ _ => by go_simp⟩) (by assumption) ?_
        (try simp only [Act.put, List.getElem_toArray, List.getElem_cons_zero, List.getElem_cons_succ, List.setIfInBounds_toArray, List.set_cons_zero, List.set_cons_succ])
        refine wpAnyH_take (i := 1) (v := .slice (some ⟨g, 0, none⟩) xs.length c) rfl (by kernel_rfl) (by kernel_rfl) (by kernel_rfl) (fun _ _ _ h => h) (Or.inl ⟨by kernel_rfl, fun _ _ => by go_simp⟩) (by assumption) ?_
        (try simp only [Act.put, List.getElem_toArray, List.getElem_cons_zero, List.getElem_cons_succ, List.setIfInBounds_toArray, List.set_cons_zero, List.set_cons_succ])
        refine wpAnyH_take (i := 2) (v := .int .i64 xs.length) rfl (by kernel_rfl) (by kernel_rfl) (by kernel_rfl) (fun _ _ _ h => h) (Or.inl ⟨by kernel_rfl, fun _ _ => by go_simp⟩) (by assumption) ?_
        (try simp only [Act.put, List.getElem_toArray, List.getElem_cons_zero, List.getElem_cons_succ, List.setIfInBounds_toArray, List.set_cons_zero, List.set_cons_succ])
        refine wpAnyH_take (i := 3) (v := .bool true) rfl (by kernel_rfl) (by kernel_rfl) (by kernel_rfl) (fun _ _ _ h => h) (Or.inl ⟨by kernel_rfl, fun _ _ => by go_simp⟩) (by assumption) ?_
        (try simp only [Act.put, List.getElem_toArray, List.getElem_cons_zero, List.getElem_cons_succ, List.setIfInBounds_toArray, List.set_cons_zero, List.set_cons_succ])
        refine wpAnyH_take (i := 4) (v := .bool true) rfl (by kernel_rfl) (by kernel_rfl) (by kernel_rfl) (fun _ _ _ h => h) (Or.inl ⟨by kernel_rfl, fun _ _ => by go_simp⟩) (by assumption) ?_
        (try simp only [Act.put, List.getElem_toArray, List.getElem_cons_zero, List.getElem_cons_succ, List.setIfInBounds_toArray, List.set_cons_zero, List.set_cons_succ])
        refine wpAnyH_take (i := 5) (v := .slice (some ⟨g, 0, none⟩) xs.length c) rfl (by kernel_rfl) (by kernel_rfl) (by kernel_rfl) (fun _ _ _ h => h) (Or.inl ⟨by kernel_rfl, fun _ _ => by go_simp⟩) (by assumption) ?_
        (try simp only [Act.put, List.getElem_toArray, List.getElem_cons_zero, List.getElem_cons_succ, List.setIfInBounds_toArray, List.set_cons_zero, List.set_cons_succ])
        refine wpAnyH_take (i := 6) (v := .int .i64 k) rfl (by kernel_rfl) (by kernel_rfl) (by kernel_rfl) (fun _ _ _ h => h) (Or.inl ⟨by kernel_rfl, fun _ _ => by go_simp⟩) (by assumption) ?_
        (try simp only [Act.put, List.getElem_toArray, List.getElem_cons_zero, List.getElem_cons_succ, List.setIfInBounds_toArray, List.set_cons_zero, List.set_cons_succ])
        refine wpAnyH_take (i := 7) (v := .pointer (some ⟨g, k * 3, none⟩)) rfl (by kernel_rfl) (by kernel_rfl) (by kernel_rfl) (fun _ _ _ h => h) (Or.inl ⟨by kernel_rfl, fun _ _ => by go_simp⟩) (by assumption) ?_
        (try simp only [Act.put, List.getElem_toArray, List.getElem_cons_zero, List.getElem_cons_succ, List.setIfInBounds_toArray, List.set_cons_zero, List.set_cons_succ])
        refine wpAnyH_take (i := 8) (v := .pointer (some ⟨g, k * 3 + 1, none⟩)) rfl (by kernel_rfl) (by kernel_rfl) (by kernel_rfl) (fun _ _ _ h => h) (Or.inl ⟨by kernel_rfl, fun _ _ => by go_simp⟩) (by assumption) ?_
        (try simp only [Act.put, List.getElem_toArray, List.getElem_cons_zero, List.getElem_cons_succ, List.setIfInBounds_toArray, List.set_cons_zero, List.set_cons_succ])
        refine wpAnyH_take (i := 9) (v := .agg #[.int .i64 y.2.1, .slice B q r]) rfl (by kernel_rfl) (by kernel_rfl) (by kernel_rfl) (fun _ _ _ h => h) (Or.inl ⟨by kernel_rfl, fun wv hSw => by (obtain ⟨hS0, hS1, hS2, hS3⟩ := hSw); go_simp⟩) (by assumption) ?_
        (try simp only [Act.put, List.getElem_toArray, List.getElem_cons_zero, List.getElem_cons_succ, List.setIfInBounds_toArray, List.set_cons_zero, List.set_cons_succ])
        refine wpAnyH_take (i := 10) (v := .pointer (some ⟨w.heap.size, 1, none⟩)) rfl (by kernel_rfl) (by kernel_rfl) (by kernel_rfl) (fun _ _ _ h => h) (Or.inl ⟨by kernel_rfl, fun _ _ => by go_simp⟩) (by assumption) ?_
        (try simp only [Act.put, List.getElem_toArray, List.getElem_cons_zero, List.getElem_cons_succ, List.setIfInBounds_toArray, List.set_cons_zero, List.set_cons_succ])
        refine wpAnyH_take (i := 11) (v := .agg #[.int .i64 e.2.1, .slice V m d]) rfl (by kernel_rfl) (by kernel_rfl) (by kernel_rfl) (fun _ _ _ h => h) (Or.inl ⟨by kernel_rfl, fun wv hSw => by (obtain ⟨hS0, hS1, hS2, hS3⟩ := hSw); go_simp⟩) (by assumption) ?_
        (try simp only [Act.put, List.getElem_toArray, List.getElem_cons_zero, List.getElem_cons_succ, List.setIfInBounds_toArray, List.set_cons_zero, List.set_cons_succ])
        refine wpAnyH_ready (rs := [12]) (by kernel_rfl) (by simp) ?_
        refine AllReadyH.cons rfl (fun K hK => ?_) AllReadyH.nil
        go_simp
        refine (HC _ (Below.drew Tk)).mono ?_
        rintro e' wn ⟨rfl, hbn⟩
        replace Tk := below_next (Below.drew Tk) hbn rfl
        go_wp2_with fail
        refine hK.out _ _ ⟨keepc Tk cc1, keepc Tk cc2, keepc Tk cb1, keepc Tk cb2⟩ (fun hHeld1 => ?_)
        clear hK K hHeld0
        (try simp only [Act.put, List.getElem_toArray, List.getElem_cons_zero, List.getElem_cons_succ, List.setIfInBounds_toArray, List.set_cons_zero, List.set_cons_succ])
        refine wpAnyH_take (i := 13) (v := .bool true) rfl (by kernel_rfl) (by kernel_rfl) (by kernel_rfl) (fun _ _ _ h => h) (Or.inl ⟨by kernel_rfl, fun _ _ => by go_simp⟩) (by assumption) ?_
        (try simp only [Act.put, List.getElem_toArray, List.getElem_cons_zero, List.getElem_cons_succ, List.setIfInBounds_toArray, List.set_cons_zero, List.set_cons_succ])
        refine wpAnyH_take (i := 14) (v := .bool true) rfl (by kernel_rfl) (by kernel_rfl) (by kernel_rfl) (fun _ _ _ h => h) (Or.inl ⟨by kernel_rfl, fun _ _ => by go_simp⟩) (by assumption) ?_
        (try simp only [Act.put, List.getElem_toArray, List.getElem_cons_zero, List.getElem_cons_succ, List.setIfInBounds_toArray, List.set_cons_zero, List.set_cons_succ])
        refine wpAnyH_done (by kernel_rfl) ?_ _
        go_wp2_with fail
        go_roundw
        case rel => exact ⟨k + 1, by omega, by go_num, HPA.out.step HY.out HB.out, below_next hT Tk rfl⟩
        case measure => simp [intOf]; omega
      · have HB : Hid (befB y.2 e.2 = false) := by show _ = _; rw [befB_cmp, HCV.out, decide_eq_false hcv]
        have HPO : Hid (posL e.2 xs = k) := HPA.out.stop HY.out HB.out
        go_wp2_with fail
        refine wp_region_held_drew (S := fun w' => w'.cell? ⟨g, k * 3 + 1, none⟩ = some (.int .i64 y.2.1) ∧ w'.cell? ⟨g, k * 3 + 2, none⟩ = some (.slice B q r) ∧ w'.cell? ⟨w.heap.size, 1, none⟩ = some (.int .i64 e.2.1) ∧ w'.cell? ⟨w.heap.size, 2, none⟩ = some (.slice V m d)) (by kernel_rfl) ⟨cc1, cc2, cb1, cb2⟩ (fun hHeld0 => ?_)
        refine wpAnyH_take (i := 0) (v := .int .i64 k) rfl (by kernel_rfl) (by kernel_rfl) (by kernel_rfl) (fun _ _ _ h => h) (Or.inl ⟨by kernel_rfl, fun _ _ => by go_simp⟩) (by assumption) ?_
        (try simp only [Act.put, List.getElem_toArray, List.getElem_cons_zero, List.getElem_cons_succ, List.setIfInBounds_toArray, List.set_cons_zero, List.set_cons_succ])
        refine wpAnyH_take (i := 1) (v := .slice (some ⟨g, 0, none⟩) xs.length c) rfl (by kernel_rfl) (by kernel_rfl) (by kernel_rfl) (fun _ _ _ h => h) (Or.inl ⟨by kernel_rfl, fun _ _ => by go_simp⟩) (by assumption) ?_
        (try simp only [Act.put, List.getElem_toArray, List.getElem_cons_zero, List.getElem_cons_succ, List.setIfInBounds_toArray, List.set_cons_zero, List.set_cons_succ])
        refine wpAnyH_take (i := 2) (v := .int .i64 xs.length) rfl (by kernel_rfl) (by kernel_rfl) (by kernel_rfl) (fun _ _ _ h => h) (Or.inl ⟨by kernel_rfl, fun _ _ => by go_simp⟩) (by assumption) ?_
        (try simp only [Act.put, List.getElem_toArray, List.getElem_cons_zero, List.getElem_cons_succ, List.setIfInBounds_toArray, List.set_cons_zero, List.set_cons_succ])
        refine wpAnyH_take (i := 3) (v := .bool true) rfl (by kernel_rfl) (by kernel_rfl) (by kernel_rfl) (fun _ _ _ h => h) (Or.inl ⟨by kernel_rfl, fun _ _ => by go_simp⟩) (by assumption) ?_
        (try simp only [Act.put, List.getElem_toArray, List.getElem_cons_zero, List.getElem_cons_succ, List.setIfInBounds_toArray, List.set_cons_zero, List.set_cons_succ])
        refine wpAnyH_take (i := 4) (v := .bool true) rfl (by kernel_rfl) (by kernel_rfl) (by kernel_rfl) (fun _ _ _ h => h) (Or.inl ⟨by kernel_rfl, fun _ _ => by go_simp⟩) (by assumption) ?_
        (try simp only [Act.put, List.getElem_toArray, List.getElem_cons_zero, List.getElem_cons_succ, List.setIfInBounds_toArray, List.set_cons_zero, List.set_cons_succ])
        refine wpAnyH_take (i := 5) (v := .slice (some ⟨g, 0, none⟩) xs.length c) rfl (by kernel_rfl) (by kernel_rfl) (by kernel_rfl) (fun _ _ _ h => h) (Or.inl ⟨by kernel_rfl, fun _ _ => by go_simp⟩) (by assumption) ?_
        (try simp only [Act.put, List.getElem_toArray, List.getElem_cons_zero, List.getElem_cons_succ, List.setIfInBounds_toArray, List.set_cons_zero, List.set_cons_succ])
        refine wpAnyH_take (i := 6) (v := .int .i64 k) rfl (by kernel_rfl) (by kernel_rfl) (by kernel_rfl) (fun _ _ _ h => h) (Or.inl ⟨by kernel_rfl, fun _ _ => by go_simp⟩) (by assumption) ?_
        (try simp only [Act.put, List.getElem_toArray, List.getElem_cons_zero, List.getElem_cons_succ, List.setIfInBounds_toArray, List.set_cons_zero, List.set_cons_succ])
        refine wpAnyH_take (i := 7) (v := .pointer (some ⟨g, k * 3, none⟩)) rfl (by kernel_rfl) (by kernel_rfl) (by kernel_rfl) (fun _ _ _ h => h) (Or.inl ⟨by kernel_rfl, fun _ _ => by go_simp⟩) (by assumption) ?_
        (try simp only [Act.put, List.getElem_toArray, List.getElem_cons_zero, List.getElem_cons_succ, List.setIfInBounds_toArray, List.set_cons_zero, List.set_cons_succ])
        refine wpAnyH_take (i := 8) (v := .pointer (some ⟨g, k * 3 + 1, none⟩)) rfl (by kernel_rfl) (by kernel_rfl) (by kernel_rfl) (fun _ _ _ h => h) (Or.inl ⟨by kernel_rfl, fun _ _ => by go_simp⟩) (by assumption) ?_
        (try simp only [Act.put, List.getElem_toArray, List.getElem_cons_zero, List.getElem_cons_succ, List.setIfInBounds_toArray, List.set_cons_zero, List.set_cons_succ])
        refine wpAnyH_take (i := 9) (v := .agg #[.int .i64 y.2.1, .slice B q r]) rfl (by kernel_rfl) (by kernel_rfl) (by kernel_rfl) (fun _ _ _ h => h) (Or.inl ⟨by kernel_rfl, fun wv hSw => by (obtain ⟨hS0, hS1, hS2, hS3⟩ := hSw); go_simp⟩) (by assumption) ?_
        (try simp only [Act.put, List.getElem_toArray, List.getElem_cons_zero, List.getElem_cons_succ, List.setIfInBounds_toArray, List.set_cons_zero, List.set_cons_succ])
        refine wpAnyH_take (i := 10) (v := .pointer (some ⟨w.heap.size, 1, none⟩)) rfl (by kernel_rfl) (by kernel_rfl) (by kernel_rfl) (fun _ _ _ h => h) (Or.inl ⟨by kernel_rfl, fun _ _ => by go_simp⟩) (by assumption) ?_
        (try simp only [Act.put, List.getElem_toArray, List.getElem_cons_zero, List.getElem_cons_succ, List.setIfInBounds_toArray, List.set_cons_zero, List.set_cons_succ])
        refine wpAnyH_take (i := 11) (v := .agg #[.int .i64 e.2.1, .slice V m d]) rfl (by kernel_rfl) (by kernel_rfl) (by kernel_rfl) (fun _ _ _ h => h) (Or.inl ⟨by kernel_rfl, fun wv hSw => by (obtain ⟨hS0, hS1, hS2, hS3⟩ := hSw); go_simp⟩) (by assumption) ?_
        (try simp only [Act.put, List.getElem_toArray, List.getElem_cons_zero, List.getElem_cons_succ, List.setIfInBounds_toArray, List.set_cons_zero, List.set_cons_succ])
        refine wpAnyH_ready (rs := [12]) (by kernel_rfl) (by simp) ?_
        refine AllReadyH.cons rfl (fun K hK => ?_) AllReadyH.nil
        go_simp
        refine (HC _ (Below.drew Tk)).mono ?_
        rintro e' wn ⟨rfl, hbn⟩
        replace Tk := below_next (Below.drew Tk) hbn rfl
        go_wp2_with fail
        refine hK.out _ _ ⟨keepc Tk cc1, keepc Tk cc2, keepc Tk cb1, keepc Tk cb2⟩ (fun hHeld1 => ?_)
        clear hK K hHeld0
        (try simp only [Act.put, List.getElem_toArray, List.getElem_cons_zero, List.getElem_cons_succ, List.setIfInBounds_toArray, List.set_cons_zero, List.set_cons_succ])
        refine wpAnyH_take (i := 13) (v := .bool false) rfl (by kernel_rfl) (by kernel_rfl) (by kernel_rfl) (fun _ _ _ h => h) (Or.inl ⟨by kernel_rfl, fun _ _ => by go_simp⟩) (by assumption) ?_
        (try simp only [Act.put, List.getElem_toArray, List.getElem_cons_zero, List.getElem_cons_succ, List.setIfInBounds_toArray, List.set_cons_zero, List.set_cons_succ])
        refine wpAnyH_take (i := 14) (v := .bool false) rfl (by kernel_rfl) (by kernel_rfl) (by kernel_rfl) (fun _ _ _ h => h) (Or.inl ⟨by kernel_rfl, fun _ _ => by go_simp⟩) (by assumption) ?_
        (try simp only [Act.put, List.getElem_toArray, List.getElem_cons_zero, List.getElem_cons_succ, List.setIfInBounds_toArray, List.set_cons_zero, List.set_cons_succ])
        refine wpAnyH_done (by kernel_rfl) ?_ _
        go_wp2_with fail
        obtain ⟨dv, HDV⟩ : ∃ dv, Hid (eqC y.2 e.2 = dv) := ⟨_, rfl⟩
        have HDU : Hid (dupB xs e = dv) := by show _ = _; rw [dup_at HPO.out HY.out, HDV.out]
        replace cc1 := keepc Tk cc1
        replace cc2 := keepc Tk cc2
        replace cb1 := keepc Tk cb1
        replace cb2 := keepc Tk cb2
        have hT1 := below_next hT Tk rfl
        have hTw1 := below_next hTw Tk rfl
        obtain ⟨w1, HW1⟩ : ∃ w1 : World, w1 = wn := ⟨_, rfl⟩
        have HC1 : ∀ wz, Below w1.heap.size w1 wz → Calls Try.prog 54 #[.agg #[.int .i64 y.2.1, .slice B q r], .agg #[.int .i64 e.2.1, .slice V m d]] wz (Bl wz (.int .i64 cv)) := fun wz hz => HC wz (below_next Tk (by rw [HW1] at hz; exact hz) rfl)
        rw [← HW1] at cc1 cc2 cb1 cb2 hT1 hTw1 ⊢
        clear HW1 HC Tk hbn hT hTw hPr
        have hT := hT1
        have hTw := hTw1
        have HC := HC1
        have Tk : Below w1.heap.size w1 w1 := Below.refl _ _
        clear hT1 hTw1 HC1
        rcases dv with _ | _
        · have hc0 : (cv == 0) = false := by
            cases h9 : cv == 0 with
            | false => rfl
            | true => have h8 := HZ.out.1 (eq_of_beq h9); rw [HDV.out] at h8; cases h8
          refine wp_region_held_drew (S := fun w' => w'.cell? ⟨g, k * 3 + 1, none⟩ = some (.int .i64 y.2.1) ∧ w'.cell? ⟨g, k * 3 + 2, none⟩ = some (.slice B q r) ∧ w'.cell? ⟨w.heap.size, 1, none⟩ = some (.int .i64 e.2.1) ∧ w'.cell? ⟨w.heap.size, 2, none⟩ = some (.slice V m d)) (by kernel_rfl) ⟨cc1, cc2, cb1, cb2⟩ (fun hHeld0 => ?_)
          refine wpAnyH_take (i := 0) (v := .int .i64 k) rfl (by kernel_rfl) (by kernel_rfl) (by kernel_rfl) (fun _ _ _ h => h) (Or.inl ⟨by kernel_rfl, fun _ _ => by go_simp⟩) (by assumption) ?_
          (try simp only [Act.put, List.getElem_toArray, List.getElem_cons_zero, List.getElem_cons_succ, List.setIfInBounds_toArray, List.set_cons_zero, List.set_cons_succ])
          refine wpAnyH_take (i := 1) (v := .slice (some ⟨g, 0, none⟩) xs.length c) rfl (by kernel_rfl) (by kernel_rfl) (by kernel_rfl) (fun _ _ _ h => h) (Or.inl ⟨by kernel_rfl, fun _ _ => by go_simp⟩) (by assumption) ?_
          (try simp only [Act.put, List.getElem_toArray, List.getElem_cons_zero, List.getElem_cons_succ, List.setIfInBounds_toArray, List.set_cons_zero, List.set_cons_succ])
          refine wpAnyH_take (i := 2) (v := .int .i64 xs.length) rfl (by kernel_rfl) (by kernel_rfl) (by kernel_rfl) (fun _ _ _ h => h) (Or.inl ⟨by kernel_rfl, fun _ _ => by go_simp⟩) (by assumption) ?_
          (try simp only [Act.put, List.getElem_toArray, List.getElem_cons_zero, List.getElem_cons_succ, List.setIfInBounds_toArray, List.set_cons_zero, List.set_cons_succ])
          refine wpAnyH_take (i := 3) (v := .bool true) rfl (by kernel_rfl) (by kernel_rfl) (by kernel_rfl) (fun _ _ _ h => h) (Or.inl ⟨by kernel_rfl, fun _ _ => by go_simp⟩) (by assumption) ?_
          (try simp only [Act.put, List.getElem_toArray, List.getElem_cons_zero, List.getElem_cons_succ, List.setIfInBounds_toArray, List.set_cons_zero, List.set_cons_succ])
          refine wpAnyH_take (i := 4) (v := .bool true) rfl (by kernel_rfl) (by kernel_rfl) (by kernel_rfl) (fun _ _ _ h => h) (Or.inl ⟨by kernel_rfl, fun _ _ => by go_simp⟩) (by assumption) ?_
          (try simp only [Act.put, List.getElem_toArray, List.getElem_cons_zero, List.getElem_cons_succ, List.setIfInBounds_toArray, List.set_cons_zero, List.set_cons_succ])
          refine wpAnyH_take (i := 5) (v := .slice (some ⟨g, 0, none⟩) xs.length c) rfl (by kernel_rfl) (by kernel_rfl) (by kernel_rfl) (fun _ _ _ h => h) (Or.inl ⟨by kernel_rfl, fun _ _ => by go_simp⟩) (by assumption) ?_
          (try simp only [Act.put, List.getElem_toArray, List.getElem_cons_zero, List.getElem_cons_succ, List.setIfInBounds_toArray, List.set_cons_zero, List.set_cons_succ])
          refine wpAnyH_take (i := 6) (v := .int .i64 k) rfl (by kernel_rfl) (by kernel_rfl) (by kernel_rfl) (fun _ _ _ h => h) (Or.inl ⟨by kernel_rfl, fun _ _ => by go_simp⟩) (by assumption) ?_
          (try simp only [Act.put, List.getElem_toArray, List.getElem_cons_zero, List.getElem_cons_succ, List.setIfInBounds_toArray, List.set_cons_zero, List.set_cons_succ])
          refine wpAnyH_take (i := 7) (v := .pointer (some ⟨g, k * 3, none⟩)) rfl (by kernel_rfl) (by kernel_rfl) (by kernel_rfl) (fun _ _ _ h => h) (Or.inl ⟨by kernel_rfl, fun _ _ => by go_simp⟩) (by assumption) ?_
          (try simp only [Act.put, List.getElem_toArray, List.getElem_cons_zero, List.getElem_cons_succ, List.setIfInBounds_toArray, List.set_cons_zero, List.set_cons_succ])
          refine wpAnyH_take (i := 8) (v := .pointer (some ⟨g, k * 3 + 1, none⟩)) rfl (by kernel_rfl) (by kernel_rfl) (by kernel_rfl) (fun _ _ _ h => h) (Or.inl ⟨by kernel_rfl, fun _ _ => by go_simp⟩) (by assumption) ?_
          (try simp only [Act.put, List.getElem_toArray, List.getElem_cons_zero, List.getElem_cons_succ, List.setIfInBounds_toArray, List.set_cons_zero, List.set_cons_succ])
          refine wpAnyH_take (i := 9) (v := .agg #[.int .i64 y.2.1, .slice B q r]) rfl (by kernel_rfl) (by kernel_rfl) (by kernel_rfl) (fun _ _ _ h => h) (Or.inl ⟨by kernel_rfl, fun wv hSw => by (obtain ⟨hS0, hS1, hS2, hS3⟩ := hSw); go_simp⟩) (by assumption) ?_
          (try simp only [Act.put, List.getElem_toArray, List.getElem_cons_zero, List.getElem_cons_succ, List.setIfInBounds_toArray, List.set_cons_zero, List.set_cons_succ])
          refine wpAnyH_take (i := 10) (v := .pointer (some ⟨w.heap.size, 1, none⟩)) rfl (by kernel_rfl) (by kernel_rfl) (by kernel_rfl) (fun _ _ _ h => h) (Or.inl ⟨by kernel_rfl, fun _ _ => by go_simp⟩) (by assumption) ?_
          (try simp only [Act.put, List.getElem_toArray, List.getElem_cons_zero, List.getElem_cons_succ, List.setIfInBounds_toArray, List.set_cons_zero, List.set_cons_succ])
          refine wpAnyH_take (i := 11) (v := .agg #[.int .i64 e.2.1, .slice V m d]) rfl (by kernel_rfl) (by kernel_rfl) (by kernel_rfl) (fun _ _ _ h => h) (Or.inl ⟨by kernel_rfl, fun wv hSw => by (obtain ⟨hS0, hS1, hS2, hS3⟩ := hSw); go_simp⟩) (by assumption) ?_
          (try simp only [Act.put, List.getElem_toArray, List.getElem_cons_zero, List.getElem_cons_succ, List.setIfInBounds_toArray, List.set_cons_zero, List.set_cons_succ])
          refine wpAnyH_ready (rs := [12]) (by kernel_rfl) (by simp) ?_
          refine AllReadyH.cons rfl (fun K hK => ?_) AllReadyH.nil
          go_simp
          refine (HC _ (Below.drew Tk)).mono ?_
          rintro e' wn ⟨rfl, hbn⟩
          replace Tk := below_next (Below.drew Tk) hbn rfl
          go_wp2_with fail
          refine hK.out _ _ ⟨keepc Tk cc1, keepc Tk cc2, keepc Tk cb1, keepc Tk cb2⟩ (fun hHeld1 => ?_)
          clear hK K hHeld0
          (try simp only [Act.put, List.getElem_toArray, List.getElem_cons_zero, List.getElem_cons_succ, List.setIfInBounds_toArray, List.set_cons_zero, List.set_cons_succ])
          refine wpAnyH_take (i := 13) (v := .bool false) rfl (by kernel_rfl) (by kernel_rfl) (by kernel_rfl) (fun _ _ _ h => h) (Or.inl ⟨by kernel_rfl, fun _ _ => by go_simp⟩) (by assumption) ?_
          (try simp only [Act.put, List.getElem_toArray, List.getElem_cons_zero, List.getElem_cons_succ, List.setIfInBounds_toArray, List.set_cons_zero, List.set_cons_succ])
          refine wpAnyH_take (i := 14) (v := .bool false) rfl (by kernel_rfl) (by kernel_rfl) (by kernel_rfl) (fun _ _ _ h => h) (Or.inl ⟨by kernel_rfl, fun _ _ => by go_simp⟩) (by assumption) ?_
          (try simp only [Act.put, List.getElem_toArray, List.getElem_cons_zero, List.getElem_cons_succ, List.setIfInBounds_toArray, List.set_cons_zero, List.set_cons_succ])
          refine wpAnyH_done (by kernel_rfl) ?_ _
          go_wp2_with fail
          obtain ⟨wz, HWZ⟩ : ∃ wz : World, wz = wn := ⟨_, rfl⟩
          rw [← HWZ] at Tk ⊢
          clear HWZ
          have Tz := below_next hTw Tk rfl
          have hPz := hP.next Tz
          have cz0 := (BP.next (below_next hT Tk rfl)).cell 0
          have cz1 := (BP.next (below_next hT Tk rfl)).cell 1
          have cz2 := (BP.next (below_next hT Tk rfl)).cell 2
          simp at cz0 cz1 cz2
          have hcell := hPz.2.1.cells (g := g) rfl
          have HNEWS := Lib.hid (with_news hPz hk)
          have HOLDS := Lib.hid (with_olds hPz (k := k))
          have HL1 := Lib.hid (with_len hPz hk)
          have HON := Lib.hid (with_one hPz (k := k))
          obtain ⟨ad, HIF, N3⟩ : ∃ ad, Hid ((if c = k then some (⟨g, 0, none⟩ : Addr) else some ⟨g, k * 3, none⟩) = some ad) ∧ Hid (∀ (j : Nat) u, (css.drop k).flatten[j]? = some u → wz.cell? (ad.add j) = some u) := by
            by_cases hq : c = k
            · refine ⟨⟨g, 0, none⟩, if_pos hq, fun j u hu => ?_⟩
              have e0 : css.drop k = [] := List.drop_eq_nil_of_le (by have := hPz.1.l1; have := hgc; omega)
              rw [e0] at hu
              simp at hu
            · exact ⟨_, if_neg hq, HNEWS.out⟩
          clear hcell
          go_wp2_with fail
          go_region_law (first
            | (refine step_appN _ rfl (.tmp 42) (.tmp 45) 24 33 rfl (.agg #[.string ⟨#[]⟩, .int .i64 0, .slice none 0 0]) 48 Try.underlying24 info_entry3 rfl (by decide) wz.heap.size 1 1 _ [.string e.1, .int .i64 e.2.1, .slice V m d] (by rfl) (by exact World.ownsRow_lit wz #[.string e.1, .int .i64 e.2.1, .slice V m d] 1 (Nat.le_refl _) (by decide) rfl) ad (xs.length - k) (c - k) (css.drop k).flatten (by show Value.slice (if c = k then _ else _) _ _ = _; rw [HIF.out]) HL1.out (fun j u hu => by first | exact keepc (below_box wz _) (N3.out j u hu) | exact keepc (Below.drew (below_box wz _)) (N3.out j u hu)) HON.out (by omega) (by simp) ?_; intro A5 c5 w5 hown5 hg5 hb5; have T5 : Below wz.heap.size wz w5 := (by first | exact (below_box wz _).trans hb5 | exact (Below.drew (below_box wz _)).trans hb5)))
          obtain ⟨g5, rfl, hg5b, hnc5⟩ := own_formE hown5 (by omega)
          have hc5 := hown5.cells (g := g5) rfl
          have T5w := below_next Tz T5 rfl
          have hOld5 : ∀ j v, (css.take k).flatten[j]? = some v → w5.cell? ((⟨g, 0, none⟩ : Addr).add j) = some v := fun j v hv => keepc T5 (HOLDS.out j v hv)
          have HO5 := Lib.hid hOld5
          have HC5 := Lib.hid hc5
          have HLT := Lib.hid (with_lent hPz hk)
          clear hOld5 hc5
          go_wp2_with (at_builtin; refine app_new w5 rfl _ _ 24 33 rfl (.agg #[.string ⟨#[]⟩, .int .i64 0, .slice none 0 0]) 48 3 Try.underlying24 info_entry3 rfl (by decide) (some ⟨g, 0, none⟩) k k (css.take k).flatten rfl HLT.out (.inr ⟨_, rfl, HO5.out⟩) ⟨g5, 0, none⟩ (1 + (xs.length - k)) c5 ([.string e.1, .int .i64 e.2.1, .slice V m d] ++ (css.drop k).flatten) rfl (by rw [List.length_append, HL1.out]; simp; omega) HC5.out (by omega) (by omega) (by omega) ?_; intro A6 c6 w6 hown6 hb6)
          all_goals
            have T6w := below_next T5w hb6 rfl
            have hfin := hP.ins (v' := .slice A6 (k + (1 + (xs.length - k))) c6) ho hbk hb hdis hk hlo T6w (by rw [with_flat, show xs.length + 1 = k + (1 + (xs.length - k)) from by omega]; exact own_mono hown6 T5w.size)
            have HF := Lib.hid hfin
            clear hfin
            go_ret2
            refine ⟨_, _, _, _, _, by rw [HDU.out]; rfl, by rw [HDU.out, if_neg (by decide), insM_at HPO.out]; exact HF.out, T6w, fun b hb' => ?_⟩
            rcases List.mem_append.1 ((flat_ins bls bk k).mem_iff.1 hb') with h4 | h4
            · exact .inr h4
            · exact .inl h4
        · have hc0 : (cv == 0) = true := by rw [beq_iff_eq]; exact HZ.out.2 HDV.out
          have hP1 := hP.next hTw
          refine wp_region_held_drew (S := fun w' => w'.cell? ⟨g, k * 3 + 1, none⟩ = some (.int .i64 y.2.1) ∧ w'.cell? ⟨g, k * 3 + 2, none⟩ = some (.slice B q r) ∧ w'.cell? ⟨w.heap.size, 1, none⟩ = some (.int .i64 e.2.1) ∧ w'.cell? ⟨w.heap.size, 2, none⟩ = some (.slice V m d)) (by kernel_rfl) ⟨cc1, cc2, cb1, cb2⟩ (fun hHeld0 => ?_)
          refine wpAnyH_take (i := 0) (v := .int .i64 k) rfl (by kernel_rfl) (by kernel_rfl) (by kernel_rfl) (fun _ _ _ h => h) (Or.inl ⟨by kernel_rfl, fun _ _ => by go_simp⟩) (by assumption) ?_
          (try simp only [Act.put, List.getElem_toArray, List.getElem_cons_zero, List.getElem_cons_succ, List.setIfInBounds_toArray, List.set_cons_zero, List.set_cons_succ])
          refine wpAnyH_take (i := 1) (v := .slice (some ⟨g, 0, none⟩) xs.length c) rfl (by kernel_rfl) (by kernel_rfl) (by kernel_rfl) (fun _ _ _ h => h) (Or.inl ⟨by kernel_rfl, fun _ _ => by go_simp⟩) (by assumption) ?_
          (try simp only [Act.put, List.getElem_toArray, List.getElem_cons_zero, List.getElem_cons_succ, List.setIfInBounds_toArray, List.set_cons_zero, List.set_cons_succ])
          refine wpAnyH_take (i := 2) (v := .int .i64 xs.length) rfl (by kernel_rfl) (by kernel_rfl) (by kernel_rfl) (fun _ _ _ h => h) (Or.inl ⟨by kernel_rfl, fun _ _ => by go_simp⟩) (by assumption) ?_
          (try simp only [Act.put, List.getElem_toArray, List.getElem_cons_zero, List.getElem_cons_succ, List.setIfInBounds_toArray, List.set_cons_zero, List.set_cons_succ])
          refine wpAnyH_take (i := 3) (v := .bool true) rfl (by kernel_rfl) (by kernel_rfl) (by kernel_rfl) (fun _ _ _ h => h) (Or.inl ⟨by kernel_rfl, fun _ _ => by go_simp⟩) (by assumption) ?_
          (try simp only [Act.put, List.getElem_toArray, List.getElem_cons_zero, List.getElem_cons_succ, List.setIfInBounds_toArray, List.set_cons_zero, List.set_cons_succ])
          refine wpAnyH_take (i := 4) (v := .bool true) rfl (by kernel_rfl) (by kernel_rfl) (by kernel_rfl) (fun _ _ _ h => h) (Or.inl ⟨by kernel_rfl, fun _ _ => by go_simp⟩) (by assumption) ?_
          (try simp only [Act.put, List.getElem_toArray, List.getElem_cons_zero, List.getElem_cons_succ, List.setIfInBounds_toArray, List.set_cons_zero, List.set_cons_succ])
          refine wpAnyH_take (i := 5) (v := .slice (some ⟨g, 0, none⟩) xs.length c) rfl (by kernel_rfl) (by kernel_rfl) (by kernel_rfl) (fun _ _ _ h => h) (Or.inl ⟨by kernel_rfl, fun _ _ => by go_simp⟩) (by assumption) ?_
          (try simp only [Act.put, List.getElem_toArray, List.getElem_cons_zero, List.getElem_cons_succ, List.setIfInBounds_toArray, List.set_cons_zero, List.set_cons_succ])
          refine wpAnyH_take (i := 6) (v := .int .i64 k) rfl (by kernel_rfl) (by kernel_rfl) (by kernel_rfl) (fun _ _ _ h => h) (Or.inl ⟨by kernel_rfl, fun _ _ => by go_simp⟩) (by assumption) ?_
          (try simp only [Act.put, List.getElem_toArray, List.getElem_cons_zero, List.getElem_cons_succ, List.setIfInBounds_toArray, List.set_cons_zero, List.set_cons_succ])
          refine wpAnyH_take (i := 7) (v := .pointer (some ⟨g, k * 3, none⟩)) rfl (by kernel_rfl) (by kernel_rfl) (by kernel_rfl) (fun _ _ _ h => h) (Or.inl ⟨by kernel_rfl, fun _ _ => by go_simp⟩) (by assumption) ?_
          (try simp only [Act.put, List.getElem_toArray, List.getElem_cons_zero, List.getElem_cons_succ, List.setIfInBounds_toArray, List.set_cons_zero, List.set_cons_succ])
          refine wpAnyH_take (i := 8) (v := .pointer (some ⟨g, k * 3 + 1, none⟩)) rfl (by kernel_rfl) (by kernel_rfl) (by kernel_rfl) (fun _ _ _ h => h) (Or.inl ⟨by kernel_rfl, fun _ _ => by go_simp⟩) (by assumption) ?_
          (try simp only [Act.put, List.getElem_toArray, List.getElem_cons_zero, List.getElem_cons_succ, List.setIfInBounds_toArray, List.set_cons_zero, List.set_cons_succ])
          refine wpAnyH_take (i := 9) (v := .agg #[.int .i64 y.2.1, .slice B q r]) rfl (by kernel_rfl) (by kernel_rfl) (by kernel_rfl) (fun _ _ _ h => h) (Or.inl ⟨by kernel_rfl, fun wv hSw => by (obtain ⟨hS0, hS1, hS2, hS3⟩ := hSw); go_simp⟩) (by assumption) ?_
          (try simp only [Act.put, List.getElem_toArray, List.getElem_cons_zero, List.getElem_cons_succ, List.setIfInBounds_toArray, List.set_cons_zero, List.set_cons_succ])
          refine wpAnyH_take (i := 10) (v := .pointer (some ⟨w.heap.size, 1, none⟩)) rfl (by kernel_rfl) (by kernel_rfl) (by kernel_rfl) (fun _ _ _ h => h) (Or.inl ⟨by kernel_rfl, fun _ _ => by go_simp⟩) (by assumption) ?_
          (try simp only [Act.put, List.getElem_toArray, List.getElem_cons_zero, List.getElem_cons_succ, List.setIfInBounds_toArray, List.set_cons_zero, List.set_cons_succ])
          refine wpAnyH_take (i := 11) (v := .agg #[.int .i64 e.2.1, .slice V m d]) rfl (by kernel_rfl) (by kernel_rfl) (by kernel_rfl) (fun _ _ _ h => h) (Or.inl ⟨by kernel_rfl, fun wv hSw => by (obtain ⟨hS0, hS1, hS2, hS3⟩ := hSw); go_simp⟩) (by assumption) ?_
          (try simp only [Act.put, List.getElem_toArray, List.getElem_cons_zero, List.getElem_cons_succ, List.setIfInBounds_toArray, List.set_cons_zero, List.set_cons_succ])
          refine wpAnyH_ready (rs := [12]) (by kernel_rfl) (by simp) ?_
          refine AllReadyH.cons rfl (fun K hK => ?_) AllReadyH.nil
          go_simp
          refine (HC _ (Below.drew Tk)).mono ?_
          rintro e' wn ⟨rfl, hbn⟩
          replace Tk := below_next (Below.drew Tk) hbn rfl
          go_wp2_with fail
          refine hK.out _ _ ⟨keepc Tk cc1, keepc Tk cc2, keepc Tk cb1, keepc Tk cb2⟩ (fun hHeld1 => ?_)
          clear hK K hHeld0
          (try simp only [Act.put, List.getElem_toArray, List.getElem_cons_zero, List.getElem_cons_succ, List.setIfInBounds_toArray, List.set_cons_zero, List.set_cons_succ])
          refine wpAnyH_take (i := 13) (v := .bool true) rfl (by kernel_rfl) (by kernel_rfl) (by kernel_rfl) (fun _ _ _ h => h) (Or.inl ⟨by kernel_rfl, fun _ _ => by go_simp⟩) (by assumption) ?_
          (try simp only [Act.put, List.getElem_toArray, List.getElem_cons_zero, List.getElem_cons_succ, List.setIfInBounds_toArray, List.set_cons_zero, List.set_cons_succ])
          refine wpAnyH_take (i := 14) (v := .bool true) rfl (by kernel_rfl) (by kernel_rfl) (by kernel_rfl) (fun _ _ _ h => h) (Or.inl ⟨by kernel_rfl, fun _ _ => by go_simp⟩) (by assumption) ?_
          (try simp only [Act.put, List.getElem_toArray, List.getElem_cons_zero, List.getElem_cons_succ, List.setIfInBounds_toArray, List.set_cons_zero, List.set_cons_succ])
          refine wpAnyH_done (by kernel_rfl) ?_ _
          have hPf := hP1.next Tk
          go_wp2_with fail
          go_ret2
          refine ⟨_, _, _, css, bls, by rw [HDU.out]; rfl, by rw [HDU.out, if_pos rfl]; exact hPf, below_next hTw Tk rfl, fun b hb' => .inl hb'⟩
    · have hk0 : (0 : Int) ≤ (k : Int) := by omega
      have hk1 : ¬ (k : Int) < (xs.length : Int) := by omega
      have hk3 : (k : Int) ≤ (xs.length : Int) := by omega
      have HPO : Hid (posL e.2 xs = k) := HPA.out.done hlt
      have HDU : Hid (dupB xs e = false) := dup_end HPO.out hlt
      go_wp2_with fail
      refine wp_region_held_drew (S := fun w' => w'.cell? ⟨w.heap.size, 1, none⟩ = some (.int .i64 e.2.1)) (by kernel_rfl) cb1 (fun hHeld0 => ?_)
      refine wpAnyH_take (i := 0) (v := .int .i64 k) rfl (by kernel_rfl) (by kernel_rfl) (by kernel_rfl) (fun _ _ _ h => h) (Or.inl ⟨by kernel_rfl, fun _ _ => by go_simp⟩) (by assumption) ?_
      (try simp only [Act.put, List.getElem_toArray, List.getElem_cons_zero, List.getElem_cons_succ, List.setIfInBounds_toArray, List.set_cons_zero, List.set_cons_succ])
      refine wpAnyH_take (i := 1) (v := .slice (some ⟨g, 0, none⟩) xs.length c) rfl (by kernel_rfl) (by kernel_rfl) (by kernel_rfl) (fun _ _ _ h => h) (Or.inl ⟨by kernel_rfl, fun _ _ => by go_simp⟩) (by assumption) ?_
      (try simp only [Act.put, List.getElem_toArray, List.getElem_cons_zero, List.getElem_cons_succ, List.setIfInBounds_toArray, List.set_cons_zero, List.set_cons_succ])
      refine wpAnyH_take (i := 2) (v := .int .i64 xs.length) rfl (by kernel_rfl) (by kernel_rfl) (by kernel_rfl) (fun _ _ _ h => h) (Or.inl ⟨by kernel_rfl, fun _ _ => by go_simp⟩) (by assumption) ?_
      (try simp only [Act.put, List.getElem_toArray, List.getElem_cons_zero, List.getElem_cons_succ, List.setIfInBounds_toArray, List.set_cons_zero, List.set_cons_succ])
      refine wpAnyH_take (i := 3) (v := .bool false) rfl (by kernel_rfl) (by kernel_rfl) (by kernel_rfl) (fun _ _ _ h => h) (Or.inl ⟨by kernel_rfl, fun _ _ => by go_simp⟩) (by assumption) ?_
      (try simp only [Act.put, List.getElem_toArray, List.getElem_cons_zero, List.getElem_cons_succ, List.setIfInBounds_toArray, List.set_cons_zero, List.set_cons_succ])
      refine wpAnyH_take (i := 4) (v := .bool false) rfl (by kernel_rfl) (by kernel_rfl) (by kernel_rfl) (fun _ _ _ h => h) (Or.inl ⟨by kernel_rfl, fun _ _ => by go_simp⟩) (by assumption) ?_
      (try simp only [Act.put, List.getElem_toArray, List.getElem_cons_zero, List.getElem_cons_succ, List.setIfInBounds_toArray, List.set_cons_zero, List.set_cons_succ])
      refine wpAnyH_take (i := 5) (v := undef) rfl (by kernel_rfl) (by kernel_rfl) (by kernel_rfl) (fun _ _ _ h => h) (Or.inr ⟨by kernel_rfl, rfl⟩) (by assumption) ?_
      (try simp only [Act.put, List.getElem_toArray, List.getElem_cons_zero, List.getElem_cons_succ, List.setIfInBounds_toArray, List.set_cons_zero, List.set_cons_succ])
      refine wpAnyH_take (i := 6) (v := undef) rfl (by kernel_rfl) (by kernel_rfl) (by kernel_rfl) (fun _ _ _ h => h) (Or.inr ⟨by kernel_rfl, rfl⟩) (by assumption) ?_
      (try simp only [Act.put, List.getElem_toArray, List.getElem_cons_zero, List.getElem_cons_succ, List.setIfInBounds_toArray, List.set_cons_zero, List.set_cons_succ])
      refine wpAnyH_take (i := 7) (v := undef) rfl (by kernel_rfl) (by kernel_rfl) (by kernel_rfl) (fun _ _ _ h => h) (Or.inr ⟨by kernel_rfl, rfl⟩) (by assumption) ?_
      (try simp only [Act.put, List.getElem_toArray, List.getElem_cons_zero, List.getElem_cons_succ, List.setIfInBounds_toArray, List.set_cons_zero, List.set_cons_succ])
      refine wpAnyH_take (i := 8) (v := undef) rfl (by kernel_rfl) (by kernel_rfl) (by kernel_rfl) (fun _ _ _ h => h) (Or.inr ⟨by kernel_rfl, rfl⟩) (by assumption) ?_
      (try simp only [Act.put, List.getElem_toArray, List.getElem_cons_zero, List.getElem_cons_succ, List.setIfInBounds_toArray, List.set_cons_zero, List.set_cons_succ])
      refine wpAnyH_take (i := 9) (v := undef) rfl (by kernel_rfl) (by kernel_rfl) (by kernel_rfl) (fun _ _ _ h => h) (Or.inr ⟨by kernel_rfl, rfl⟩) (by assumption) ?_
      (try simp only [Act.put, List.getElem_toArray, List.getElem_cons_zero, List.getElem_cons_succ, List.setIfInBounds_toArray, List.set_cons_zero, List.set_cons_succ])
      refine wpAnyH_take (i := 10) (v := undef) rfl (by kernel_rfl) (by kernel_rfl) (by kernel_rfl) (fun _ _ _ h => h) (Or.inr ⟨by kernel_rfl, rfl⟩) (by assumption) ?_
      (try simp only [Act.put, List.getElem_toArray, List.getElem_cons_zero, List.getElem_cons_succ, List.setIfInBounds_toArray, List.set_cons_zero, List.set_cons_succ])
      refine wpAnyH_take (i := 11) (v := undef) rfl (by kernel_rfl) (by kernel_rfl) (by kernel_rfl) (fun _ _ _ h => h) (Or.inr ⟨by kernel_rfl, rfl⟩) (by assumption) ?_
      (try simp only [Act.put, List.getElem_toArray, List.getElem_cons_zero, List.getElem_cons_succ, List.setIfInBounds_toArray, List.set_cons_zero, List.set_cons_succ])
      refine wpAnyH_take (i := 12) (v := undef) rfl (by kernel_rfl) (by kernel_rfl) (by kernel_rfl) (fun _ _ _ h => h) (Or.inr ⟨by kernel_rfl, rfl⟩) (by assumption) ?_
      (try simp only [Act.put, List.getElem_toArray, List.getElem_cons_zero, List.getElem_cons_succ, List.setIfInBounds_toArray, List.set_cons_zero, List.set_cons_succ])
      refine wpAnyH_take (i := 13) (v := undef) rfl (by kernel_rfl) (by kernel_rfl) (by kernel_rfl) (fun _ _ _ h => h) (Or.inr ⟨by kernel_rfl, rfl⟩) (by assumption) ?_
      (try simp only [Act.put, List.getElem_toArray, List.getElem_cons_zero, List.getElem_cons_succ, List.setIfInBounds_toArray, List.set_cons_zero, List.set_cons_succ])
      refine wpAnyH_take (i := 14) (v := .bool false) rfl (by kernel_rfl) (by kernel_rfl) (by kernel_rfl) (fun _ _ _ h => h) (Or.inl ⟨by kernel_rfl, fun _ _ => by go_simp⟩) (by assumption) ?_
      (try simp only [Act.put, List.getElem_toArray, List.getElem_cons_zero, List.getElem_cons_succ, List.setIfInBounds_toArray, List.set_cons_zero, List.set_cons_succ])
      refine wpAnyH_done (by kernel_rfl) ?_ _
      go_wp2_with fail
      refine wp_region_held_drew (S := fun w' => w'.cell? ⟨w.heap.size, 1, none⟩ = some (.int .i64 e.2.1)) (by kernel_rfl) cb1 (fun hHeld0 => ?_)
      refine wpAnyH_take (i := 0) (v := .int .i64 k) rfl (by kernel_rfl) (by kernel_rfl) (by kernel_rfl) (fun _ _ _ h => h) (Or.inl ⟨by kernel_rfl, fun _ _ => by go_simp⟩) (by assumption) ?_
      (try simp only [Act.put, List.getElem_toArray, List.getElem_cons_zero, List.getElem_cons_succ, List.setIfInBounds_toArray, List.set_cons_zero, List.set_cons_succ])
      refine wpAnyH_take (i := 1) (v := .slice (some ⟨g, 0, none⟩) xs.length c) rfl (by kernel_rfl) (by kernel_rfl) (by kernel_rfl) (fun _ _ _ h => h) (Or.inl ⟨by kernel_rfl, fun _ _ => by go_simp⟩) (by assumption) ?_
      (try simp only [Act.put, List.getElem_toArray, List.getElem_cons_zero, List.getElem_cons_succ, List.setIfInBounds_toArray, List.set_cons_zero, List.set_cons_succ])
      refine wpAnyH_take (i := 2) (v := .int .i64 xs.length) rfl (by kernel_rfl) (by kernel_rfl) (by kernel_rfl) (fun _ _ _ h => h) (Or.inl ⟨by kernel_rfl, fun _ _ => by go_simp⟩) (by assumption) ?_
      (try simp only [Act.put, List.getElem_toArray, List.getElem_cons_zero, List.getElem_cons_succ, List.setIfInBounds_toArray, List.set_cons_zero, List.set_cons_succ])
      refine wpAnyH_take (i := 3) (v := .bool false) rfl (by kernel_rfl) (by kernel_rfl) (by kernel_rfl) (fun _ _ _ h => h) (Or.inl ⟨by kernel_rfl, fun _ _ => by go_simp⟩) (by assumption) ?_
      (try simp only [Act.put, List.getElem_toArray, List.getElem_cons_zero, List.getElem_cons_succ, List.setIfInBounds_toArray, List.set_cons_zero, List.set_cons_succ])
      refine wpAnyH_take (i := 4) (v := .bool false) rfl (by kernel_rfl) (by kernel_rfl) (by kernel_rfl) (fun _ _ _ h => h) (Or.inl ⟨by kernel_rfl, fun _ _ => by go_simp⟩) (by assumption) ?_
      (try simp only [Act.put, List.getElem_toArray, List.getElem_cons_zero, List.getElem_cons_succ, List.setIfInBounds_toArray, List.set_cons_zero, List.set_cons_succ])
      refine wpAnyH_take (i := 5) (v := undef) rfl (by kernel_rfl) (by kernel_rfl) (by kernel_rfl) (fun _ _ _ h => h) (Or.inr ⟨by kernel_rfl, rfl⟩) (by assumption) ?_
      (try simp only [Act.put, List.getElem_toArray, List.getElem_cons_zero, List.getElem_cons_succ, List.setIfInBounds_toArray, List.set_cons_zero, List.set_cons_succ])
      refine wpAnyH_take (i := 6) (v := undef) rfl (by kernel_rfl) (by kernel_rfl) (by kernel_rfl) (fun _ _ _ h => h) (Or.inr ⟨by kernel_rfl, rfl⟩) (by assumption) ?_
      (try simp only [Act.put, List.getElem_toArray, List.getElem_cons_zero, List.getElem_cons_succ, List.setIfInBounds_toArray, List.set_cons_zero, List.set_cons_succ])
      refine wpAnyH_take (i := 7) (v := undef) rfl (by kernel_rfl) (by kernel_rfl) (by kernel_rfl) (fun _ _ _ h => h) (Or.inr ⟨by kernel_rfl, rfl⟩) (by assumption) ?_
      (try simp only [Act.put, List.getElem_toArray, List.getElem_cons_zero, List.getElem_cons_succ, List.setIfInBounds_toArray, List.set_cons_zero, List.set_cons_succ])
      refine wpAnyH_take (i := 8) (v := undef) rfl (by kernel_rfl) (by kernel_rfl) (by kernel_rfl) (fun _ _ _ h => h) (Or.inr ⟨by kernel_rfl, rfl⟩) (by assumption) ?_
      (try simp only [Act.put, List.getElem_toArray, List.getElem_cons_zero, List.getElem_cons_succ, List.setIfInBounds_toArray, List.set_cons_zero, List.set_cons_succ])
      refine wpAnyH_take (i := 9) (v := undef) rfl (by kernel_rfl) (by kernel_rfl) (by kernel_rfl) (fun _ _ _ h => h) (Or.inr ⟨by kernel_rfl, rfl⟩) (by assumption) ?_
      (try simp only [Act.put, List.getElem_toArray, List.getElem_cons_zero, List.getElem_cons_succ, List.setIfInBounds_toArray, List.set_cons_zero, List.set_cons_succ])
      refine wpAnyH_take (i := 10) (v := undef) rfl (by kernel_rfl) (by kernel_rfl) (by kernel_rfl) (fun _ _ _ h => h) (Or.inr ⟨by kernel_rfl, rfl⟩) (by assumption) ?_
      (try simp only [Act.put, List.getElem_toArray, List.getElem_cons_zero, List.getElem_cons_succ, List.setIfInBounds_toArray, List.set_cons_zero, List.set_cons_succ])
      refine wpAnyH_take (i := 11) (v := undef) rfl (by kernel_rfl) (by kernel_rfl) (by kernel_rfl) (fun _ _ _ h => h) (Or.inr ⟨by kernel_rfl, rfl⟩) (by assumption) ?_
      (try simp only [Act.put, List.getElem_toArray, List.getElem_cons_zero, List.getElem_cons_succ, List.setIfInBounds_toArray, List.set_cons_zero, List.set_cons_succ])
      refine wpAnyH_take (i := 12) (v := undef) rfl (by kernel_rfl) (by kernel_rfl) (by kernel_rfl) (fun _ _ _ h => h) (Or.inr ⟨by kernel_rfl, rfl⟩) (by assumption) ?_
      (try simp only [Act.put, List.getElem_toArray, List.getElem_cons_zero, List.getElem_cons_succ, List.setIfInBounds_toArray, List.set_cons_zero, List.set_cons_succ])
      refine wpAnyH_take (i := 13) (v := undef) rfl (by kernel_rfl) (by kernel_rfl) (by kernel_rfl) (fun _ _ _ h => h) (Or.inr ⟨by kernel_rfl, rfl⟩) (by assumption) ?_
      (try simp only [Act.put, List.getElem_toArray, List.getElem_cons_zero, List.getElem_cons_succ, List.setIfInBounds_toArray, List.set_cons_zero, List.set_cons_succ])
      refine wpAnyH_take (i := 14) (v := .bool false) rfl (by kernel_rfl) (by kernel_rfl) (by kernel_rfl) (fun _ _ _ h => h) (Or.inl ⟨by kernel_rfl, fun _ _ => by go_simp⟩) (by assumption) ?_
      (try simp only [Act.put, List.getElem_toArray, List.getElem_cons_zero, List.getElem_cons_succ, List.setIfInBounds_toArray, List.set_cons_zero, List.set_cons_succ])
      refine wpAnyH_done (by kernel_rfl) ?_ _
      go_wp2_with fail
      replace Tk := Below.drew (Below.drew Tk)
      obtain ⟨wz, HWZ⟩ : ∃ wz : World, wz = wr.drew.drew := ⟨_, rfl⟩
      rw [← HWZ] at Tk ⊢
      clear HWZ
      have Tz := below_next hTw Tk rfl
      have hPz := hP.next Tz
      have cz0 := (BP.next (below_next hT Tk rfl)).cell 0
      have cz1 := (BP.next (below_next hT Tk rfl)).cell 1
      have cz2 := (BP.next (below_next hT Tk rfl)).cell 2
      simp at cz0 cz1 cz2
      have hcell := hPz.2.1.cells (g := g) rfl
      have HNEWS := Lib.hid (with_news hPz hk)
      have HOLDS := Lib.hid (with_olds hPz (k := k))
      have HL1 := Lib.hid (with_len hPz hk)
      have HON := Lib.hid (with_one hPz (k := k))
      obtain ⟨ad, HIF, N3⟩ : ∃ ad, Hid ((if c = k then some (⟨g, 0, none⟩ : Addr) else some ⟨g, k * 3, none⟩) = some ad) ∧ Hid (∀ (j : Nat) u, (css.drop k).flatten[j]? = some u → wz.cell? (ad.add j) = some u) := by
        by_cases hq : c = k
        · refine ⟨⟨g, 0, none⟩, if_pos hq, fun j u hu => ?_⟩
          have e0 : css.drop k = [] := List.drop_eq_nil_of_le (by have := hPz.1.l1; have := hgc; omega)
          rw [e0] at hu
          simp at hu
        · exact ⟨_, if_neg hq, HNEWS.out⟩
      clear hcell
      go_wp2_with fail
      go_region_law (first
        | (refine step_appN _ rfl (.tmp 42) (.tmp 45) 24 33 rfl (.agg #[.string ⟨#[]⟩, .int .i64 0, .slice none 0 0]) 48 Try.underlying24 info_entry3 rfl (by decide) wz.heap.size 1 1 _ [.string e.1, .int .i64 e.2.1, .slice V m d] (by rfl) (by exact World.ownsRow_lit wz #[.string e.1, .int .i64 e.2.1, .slice V m d] 1 (Nat.le_refl _) (by decide) rfl) ad (xs.length - k) (c - k) (css.drop k).flatten (by show Value.slice (if c = k then _ else _) _ _ = _; rw [HIF.out]) HL1.out (fun j u hu => by first | exact keepc (below_box wz _) (N3.out j u hu) | exact keepc (Below.drew (below_box wz _)) (N3.out j u hu)) HON.out (by omega) (by simp) ?_; intro A5 c5 w5 hown5 hg5 hb5; have T5 : Below wz.heap.size wz w5 := (by first | exact (below_box wz _).trans hb5 | exact (Below.drew (below_box wz _)).trans hb5)))
      obtain ⟨g5, rfl, hg5b, hnc5⟩ := own_formE hown5 (by omega)
      have hc5 := hown5.cells (g := g5) rfl
      have T5w := below_next Tz T5 rfl
      have hOld5 : ∀ j v, (css.take k).flatten[j]? = some v → w5.cell? ((⟨g, 0, none⟩ : Addr).add j) = some v := fun j v hv => keepc T5 (HOLDS.out j v hv)
      have HO5 := Lib.hid hOld5
      have HC5 := Lib.hid hc5
      have HLT := Lib.hid (with_lent hPz hk)
      clear hOld5 hc5
      go_wp2_with (at_builtin; refine app_new w5 rfl _ _ 24 33 rfl (.agg #[.string ⟨#[]⟩, .int .i64 0, .slice none 0 0]) 48 3 Try.underlying24 info_entry3 rfl (by decide) (some ⟨g, 0, none⟩) k k (css.take k).flatten rfl HLT.out (.inr ⟨_, rfl, HO5.out⟩) ⟨g5, 0, none⟩ (1 + (xs.length - k)) c5 ([.string e.1, .int .i64 e.2.1, .slice V m d] ++ (css.drop k).flatten) rfl (by rw [List.length_append, HL1.out]; simp; omega) HC5.out (by omega) (by omega) (by omega) ?_; intro A6 c6 w6 hown6 hb6)
      all_goals
        have T6w := below_next T5w hb6 rfl
        have hfin := hP.ins (v' := .slice A6 (k + (1 + (xs.length - k))) c6) ho hbk hb hdis hk hlo T6w (by rw [with_flat, show xs.length + 1 = k + (1 + (xs.length - k)) from by omega]; exact own_mono hown6 T5w.size)
        have HF := Lib.hid hfin
        clear hfin
        go_ret2
        refine ⟨_, _, _, _, _, by rw [HDU.out]; rfl, by rw [HDU.out, if_neg (by decide), insM_at HPO.out]; exact HF.out, T6w, fun b hb' => ?_⟩
        rcases List.mem_append.1 ((flat_ins bls bk k).mem_iff.1 hb') with h4 | h4
        · exact .inr h4
        · exact .inl h4
end Go.Proofs.Ytkmgbdljiajlaaa
namespace Go.Proofs.Ytkmgbdljiajlaaa
open Go.RowKit

def CpN (w : World) (xs : List EntryM) (e : Ending) (w' : World) : Prop := ∃ g n c css bls, e = .returned (.slice (some ⟨g, 0, none⟩) n c) ∧ PE w.heap.size w' (.slice (some ⟨g, 0, none⟩) n c) xs css bls ∧ Below w.heap.size w w'
theorem PE.nn {lo : Nat} {w : World} {v : Value} {xs : List EntryM} {css : List (List Value)} {bls : List (List Nat)} (h : PE lo w v xs css bls) (hn : 0 < xs.length) : ∃ g n c, v = .slice (some ⟨g, 0, none⟩) n c := by
  obtain ⟨A, c, rfl⟩ := own_slice h.2.1
  obtain ⟨g, rfl, -, -⟩ := own_formE h.2.1 hn
  exact ⟨_, _, _, rfl⟩
theorem PE.ln {lo g n c : Nat} {w : World} {xs : List EntryM} {css : List (List Value)} {bls : List (List Nat)} (h : PE lo w (.slice (some ⟨g, 0, none⟩) n c) xs css bls) : n = xs.length ∧ n ≤ c := by
  rcases h.2.1.2 with ⟨e', h0⟩ | ⟨g', cap, cur, e', -, -, h1, -⟩
  · injection e' with e1 _ _
    cases e1
  · injection e' with _ e2 e3
    exact ⟨e2, by omega⟩
set_option maxRecDepth 100000 in
set_option maxHeartbeats 8000000 in
theorem cloneEntriesN_any (A : Option Addr) (n c : Nat) (xs : List EntryM) (w : World) (h : RdN shEntry.m shEntry.rd w A n xs) (hn : xs.length + cntS shEntry.cnt xs ≤ 1048576) :
    Calls Try.prog 45 #[.slice A n c] w (CpN w xs) := by
  obtain rfl : xs.length = n := h.len
  have HCN := Lib.hid hn
  have hle : xs.length ≤ 1048576 := by omega
  have hP0 : PE w.heap.size (w.alloc (.cells #[] 33)) (.slice (some ⟨w.heap.size, 0, none⟩) 0 0) (xs.take 0) [] [] := PE.lit (Nat.le_refl _)
  have hT0 : Below w.heap.size w (w.alloc (.cells #[] 33)) := below_box _ _
  clear hn
  go_enter Try.func45, Try.ntmps45
  go_wp2_with fail
  go_loopw [3, 9] (fun v i wr => ∃ (k : Nat) (css : List (List Value)) (bls : List (List Nat)), k ≤ xs.length ∧ i = .int .i64 k ∧ PE w.heap.size wr v (xs.take k) css bls ∧ Below w.heap.size w wr ∧ ∃ g n c, v = .slice (some ⟨g, 0, none⟩) n c) (fun _ i _ => xs.length - (intOf i).toNat)
  case atStart => exact ⟨0, _, _, Nat.zero_le _, rfl, hP0, hT0, _, _, _, rfl⟩
  case round =>
    clear hP0 hT0
    obtain ⟨k, css, bls, hk, rfl, hPE, hT, hnn⟩ := hrel
    by_cases hlt : k < xs.length
    · have hk0 : (0 : Int) ≤ (k : Int) := by omega
      have hk1 : (k : Int) < (xs.length : Int) := by omega
      obtain ⟨b, o, vs, y, rfl, -, hc, hr, -, hx⟩ := (h.next hT).at hlt
      obtain ⟨Bm, m, d, rfl, hsz, hIn, hops⟩ := rdEntry hr
      have cc0 : wr.cell? ⟨b, o + k * 3, none⟩ = some (.string y.1) := hc 0 _ rfl
      have cc1 : wr.cell? ⟨b, o + k * 3 + 1, none⟩ = some (.int .i64 y.2.1) := hc 1 _ rfl
      have cc2 : wr.cell? ⟨b, o + k * 3 + 2, none⟩ = some (.slice Bm m d) := hc 2 _ rfl
      have hral := mkAlgebra (cOps := d) hIn hops
      have HTS : Hid (xs.take (k + 1) = xs.take k ++ [y]) := take_snoc hx
      have hcy : shAlgebra.cnt y.2 ≤ 1048576 := by
        have h1 := cntS_mem (f := shEntry.cnt) (List.mem_of_getElem? hx)
        have h2 := HCN.out
        have h3 : shEntry.cnt y = y.1.size + shAlgebra.cnt y.2 := rfl
        omega
      obtain ⟨L, HL⟩ : ∃ L, Hid (xs.take k = L) := ⟨_, rfl⟩
      have HLK : Hid (L.length = k) := by show _ = _; rw [← HL.out, List.length_take]; omega
      rw [HL.out] at hPE
      have HTS2 : Hid (xs.take (k + 1) = L ++ [y]) := by show _ = _; rw [HTS.out, HL.out]
      clear hnn
      obtain ⟨A, c, rfl⟩ := own_slice hPE.2.1
      obtain ⟨w5, HW5⟩ : ∃ wb, Hid (wb = wr.alloc (.cells #[.string y.1, .int .i64 y.2.1, .slice Bm m d] 33)) := ⟨_, rfl⟩
      have T5 : Below wr.heap.size wr w5 := by rw [HW5.out]; exact below_box _ _
      have BY : Blk w5 wr.heap.size 33 #[.string y.1, .int .i64 y.2.1, .slice Bm m d] := by rw [HW5.out]; exact Blk.new _ _ _
      have hP5 := hPE.next T5
      have hr5 := shAlgebra.stab hral T5.block
      have hT5 := below_next hT T5 rfl
      have cY0 := BY.cell 0
      have cY1 := BY.cell 1
      have cY2 := BY.cell 2
      simp at cY0 cY1 cY2
      have hwz0 := hT5.size
      clear hc hx hr hPE hops
      go_upto_region 5 with fail
      rw [← HW5.out]
      clear cc0 cc1 cc2
      go_region_law (first
        | (refine step_app3 w6 rfl (.tmp 13) (.tmp 20) 24 33 rfl (.agg #[.string ⟨#[]⟩, .int .i64 0, .slice none 0 0]) 48 Try.underlying24 info_entry3 rfl (by decide) w.heap.size L.length c A css.flatten (by rfl) hvs (.string y.1) (.int .i64 y.2.1) (.slice B6 m6 d6) rfl rfl rfl (by rfl) (by have := HLK.out; omega) (by omega) ?_; intro A8 c8 w8 hown8 hg8 hb8)
        | (go_simp; go_at_call 87; refine (cloneAlgebra_any [.int .i64 y.2.1, .slice Bm m d] y.2 _ (by first | exact hr5 | exact shAlgebra.stab hr5 (fun _ _ => rfl)) hcy).mono ?_; rintro e w6 ⟨v6, css6, bls6, rfl, hP6, hbn⟩; obtain ⟨B6, d6, rfl⟩ := own_slice hP6.2.1; obtain ⟨m6, HM6⟩ : ∃ m6, Hid (y.2.2.length = m6) := ⟨_, rfl⟩; have hO6 := ent_own (s := y.1) hsz (hP6.algO (a := y.2.1) hIn); rw [HM6.out] at hO6; rw [HM6.out]; have hb := below_next (Below.drew (Below.refl w5.heap.size w5)) hbn rfl; have hiv6 : Iv w5.heap.size w6.heap.size _ := hP6.2.2; rw [HM6.out] at hiv6; obtain ⟨hvs, HPU⟩ := hP5.push hb hwz0 hO6 hiv6; have hsz6 := hb.size; have dY0 := (BY.next hb).cell 0; have dY1 := (BY.next hb).cell 1; have dY2 := (BY.next hb).cell 2; simp at dY0 dY1 dY2))
      all_goals
        have PN2 := HPU hown8 hg8
        have hT8 := (below_next hT5 hb rfl).trans hb8
        have HFIN := Lib.hid (And.intro PN2 hT8)
        clear PN2 hT8 hown8 hg8 hb8 hvs HPU
        go_wp2_with fail
        go_roundw
        case rel => exact ⟨k + 1, _, _, by omega, by go_num, by rw [HTS2.out]; exact HFIN.out.1, HFIN.out.2, PE.nn HFIN.out.1 (by simp)⟩
        case measure => simp [intOf]; omega
    · have hlt' : ¬ (k : Int) < (xs.length : Int) := by omega
      have HE : Hid (xs.take k = xs) := List.take_of_length_le (by omega)
      rw [HE.out] at hPE
      have HP := Lib.hid hPE
      clear hPE
      obtain ⟨g0, n0, c0, rfl⟩ := hnn
      go_wp2_with fail
      go_ret
      exact ⟨_, _, _, _, _, rfl, HP.out, hT⟩
set_option maxRecDepth 100000 in
set_option maxHeartbeats 8000000 in
theorem l31CopyN_any (A : Option Addr) (n c : Nat) (xs : List EntryM) (w : World) (h : RdN shEntry.m shEntry.rd w A n xs) (hn : xs.length + cntS shEntry.cnt xs ≤ 1048576) :
    Calls Try.prog 50 #[.slice A n c] w (CpN w xs) := by
  obtain rfl : xs.length = n := h.len
  have HCN := Lib.hid hn
  have hle : xs.length ≤ 1048576 := by omega
  have hP0 : PE w.heap.size (w.alloc (.cells #[] 33)) (.slice (some ⟨w.heap.size, 0, none⟩) 0 0) (xs.take 0) [] [] := PE.lit (Nat.le_refl _)
  have hT0 : Below w.heap.size w (w.alloc (.cells #[] 33)) := below_box _ _
  clear hn
  go_enter Try.func50, Try.ntmps50
  go_wp2_with fail
  go_loopw [3, 4] (fun v i wr => ∃ (k : Nat) (css : List (List Value)) (bls : List (List Nat)), k ≤ xs.length ∧ i = .int .i64 k ∧ PE w.heap.size wr v (xs.take k) css bls ∧ Below w.heap.size w wr ∧ ∃ g n c, v = .slice (some ⟨g, 0, none⟩) n c) (fun _ i _ => xs.length - (intOf i).toNat)
  case atStart => exact ⟨0, _, _, Nat.zero_le _, rfl, hP0, hT0, _, _, _, rfl⟩
  case round =>
    clear hP0 hT0
    obtain ⟨k, css, bls, hk, rfl, hPE, hT, hnn⟩ := hrel
    by_cases hlt : k < xs.length
    · have hk0 : (0 : Int) ≤ (k : Int) := by omega
      have hk1 : (k : Int) < (xs.length : Int) := by omega
      obtain ⟨b, o, vs, y, rfl, -, hc, hr, -, hx⟩ := (h.next hT).at hlt
      obtain ⟨Bm, m, d, rfl, hsz, hIn, hops⟩ := rdEntry hr
      have cc0 : wr.cell? ⟨b, o + k * 3, none⟩ = some (.string y.1) := hc 0 _ rfl
      have cc1 : wr.cell? ⟨b, o + k * 3 + 1, none⟩ = some (.int .i64 y.2.1) := hc 1 _ rfl
      have cc2 : wr.cell? ⟨b, o + k * 3 + 2, none⟩ = some (.slice Bm m d) := hc 2 _ rfl
      have hral := mkAlgebra (cOps := d) hIn hops
      have HTS : Hid (xs.take (k + 1) = xs.take k ++ [y]) := take_snoc hx
      have hcy : shAlgebra.cnt y.2 ≤ 1048576 := by
        have h1 := cntS_mem (f := shEntry.cnt) (List.mem_of_getElem? hx)
        have h2 := HCN.out
        have h3 : shEntry.cnt y = y.1.size + shAlgebra.cnt y.2 := rfl
        omega
      obtain ⟨L, HL⟩ : ∃ L, Hid (xs.take k = L) := ⟨_, rfl⟩
      have HLK : Hid (L.length = k) := by show _ = _; rw [← HL.out, List.length_take]; omega
      rw [HL.out] at hPE
      have HTS2 : Hid (xs.take (k + 1) = L ++ [y]) := by show _ = _; rw [HTS.out, HL.out]
      clear hnn
      obtain ⟨A, c, rfl⟩ := own_slice hPE.2.1
      have hP5 := hPE
      have hr5 := hral
      have hral' := shAlgebra.stab hr5 (Below.refl wr.heap.size wr).block
      have hT5 := hT
      have hwz0 := hT5.size
      clear hc hx hr hPE hops hral'
      go_upto_region 5 with fail
      go_region_law (first
        | (refine step_app3 w6 rfl (.tmp 12) (.tmp 25) 24 33 rfl (.agg #[.string ⟨#[]⟩, .int .i64 0, .slice none 0 0]) 48 Try.underlying24 info_entry3 rfl (by decide) w.heap.size L.length c A css.flatten (by rfl) hvs (.string y.1) (.int .i64 y.2.1) (.slice B6 m6 d6) rfl rfl rfl (by rfl) (by have := HLK.out; omega) (by omega) ?_; intro A8 c8 w8 hown8 hg8 hb8)
        | (go_simp; go_at_call 56; refine (l2Own_any [.int .i64 y.2.1, .slice Bm m d] y.2 _ (by first | exact hr5 | exact shAlgebra.stab hr5 (fun _ _ => rfl)) hcy).mono ?_; rintro e w6 ⟨v6, css6, bls6, rfl, hP6, hbn⟩; obtain ⟨B6, d6, rfl⟩ := own_slice hP6.2.1; obtain ⟨m6, HM6⟩ : ∃ m6, Hid (y.2.2.length = m6) := ⟨_, rfl⟩; have hO6 := ent_own (s := y.1) hsz (hP6.algO (a := y.2.1) hIn); rw [HM6.out] at hO6; rw [HM6.out]; have hb := below_next (Below.drew (Below.refl wr.heap.size wr)) hbn rfl; have hiv6 : Iv wr.heap.size w6.heap.size _ := hP6.2.2; rw [HM6.out] at hiv6; obtain ⟨hvs, HPU⟩ := hP5.push hb hwz0 hO6 hiv6; have hsz6 := hb.size; have dY0 := keepc hb cc0; have dY1 := keepc hb cc1; have dY2 := keepc hb cc2))
      all_goals
        have PN2 := HPU hown8 hg8
        have hT8 := (below_next hT5 hb rfl).trans hb8
        have HFIN := Lib.hid (And.intro PN2 hT8)
        clear PN2 hT8 hown8 hg8 hb8 hvs HPU
        go_wp2_with fail
        go_roundw
        case rel => exact ⟨k + 1, _, _, by omega, by go_num, by rw [HTS2.out]; exact HFIN.out.1, HFIN.out.2, PE.nn HFIN.out.1 (by simp)⟩
        case measure => simp [intOf]; omega
    · have hlt' : ¬ (k : Int) < (xs.length : Int) := by omega
      have HE : Hid (xs.take k = xs) := List.take_of_length_le (by omega)
      rw [HE.out] at hPE
      have HP := Lib.hid hPE
      clear hPE
      obtain ⟨g0, n0, c0, rfl⟩ := hnn
      go_wp2_with fail
      go_ret
      exact ⟨_, _, _, _, _, rfl, HP.out, hT⟩
end Go.Proofs.Ytkmgbdljiajlaaa
namespace Go.Proofs.Ytkmgbdljiajlaaa
open Go.RowKit

theorem befB_self {x y : AlgebraM} (h : x = y) (hx : SmallP x) : befB x y = false := by
  subst h
  rw [befB_cmp, (cmpI_zero hx hx).2 rfl]
  rfl
theorem dup_cat {xs : List EntryM} {e : EntryM} (h : dupB xs e = true) (he : SmallP e.2) : catB (insM xs e) = false := by
  have hle := posL_le e.2 xs
  obtain ⟨k, hk⟩ : ∃ k, posL e.2 xs = k := ⟨_, rfl⟩
  rw [hk] at hle
  by_cases hlt : k < xs.length
  · have hx : xs[k]? = some (xs[k]'hlt) := List.getElem?_eq_getElem hlt
    generalize xs[k]'hlt = x at hx
    rw [dup_at hk hx, eqC_iff] at h
    rw [insM_at hk]
    cases hc : catB (xs.take k ++ e :: xs.drop k) with
    | false => rfl
    | true =>
      have h1 := catF_at (k + 1) _ [] (cat_two hc).2
      have hl : (xs.take k).length = k := by rw [List.length_take]; omega
      have e1 : (xs.take k ++ e :: xs.drop k).take (k + 1) = xs.take k ++ [e] := by
        rw [List.take_append, hl, List.take_take, Nat.min_eq_right (by omega), show k + 1 - k = 1 from by omega]; rfl
      have e2 : (xs.take k ++ e :: xs.drop k).drop (k + 1) = x :: xs.drop (k + 1) := by
        rw [List.drop_append, hl, List.drop_eq_nil_of_le (by omega), show k + 1 - k = 1 from by omega, List.nil_append, List.drop_succ_cons, List.drop_zero]
        obtain ⟨h3, h4⟩ := List.getElem?_eq_some_iff.1 hx
        rw [List.drop_eq_getElem_cons h3, h4]
      rw [List.nil_append, e1, e2, catF, Bool.and_eq_true] at h1
      have h2 := h1.1
      unfold okE lastB at h2
      rw [List.getLast?_append, List.getLast?_singleton] at h2
      simp only [Option.some_or, Bool.and_eq_true] at h2
      rw [befB_self h.symm he] at h2
      simp at h2
  · rw [dup_end hk hlt] at h
    cases h
theorem cnt_small2 {x : AlgebraM} (h : SmallP x) : shAlgebra.cnt x ≤ 16388 := by
  have key : ∀ l : List OpM, (∀ o ∈ l, OpP x.1.toNat o) → cntS shOp.cnt l ≤ l.length * 4096 := by
    intro l
    induction l with
    | nil => intro _; exact Nat.zero_le _
    | cons o l ih =>
      intro hl
      rw [cntS_cons, List.length_cons, Nat.succ_mul]
      have h1 := ih fun o ho => hl o (by simp [ho])
      have h2 := op_len (hl o (by simp)) (by have := h.2.1; omega)
      have h3 : shOp.cnt o = 0 + o.2.length := rfl
      omega
  have h1 := key x.2 h.2.2.2
  have h2 := h.2.2.1
  have h3 : shAlgebra.cnt x = 0 + (x.2.length + cntS shOp.cnt x.2) := rfl
  omega
theorem cat_cnt {xs : List EntryM} (h : catB xs = true) : (Sh.rows shEntry 33).cnt xs ≤ 1048576 := by
  have hl := (cat_two h).1
  have hs : ∀ e ∈ xs, shEntry.cnt e ≤ 16398 := fun e he => by
    have h1 := cnt_small2 (cat_small h he)
    have h2 := catF_name _ _ (cat_two h).2 e he
    unfold nameB inB at h2
    simp only [Bool.and_eq_true, decide_eq_true_eq] at h2
    have h3 : shEntry.cnt e = e.1.size + shAlgebra.cnt e.2 := rfl
    omega
  have hk : ∀ l : List EntryM, (∀ e ∈ l, shEntry.cnt e ≤ 16398) → cntS shEntry.cnt l ≤ l.length * 16398 := fun l => by
    induction l with
    | nil => intro _; exact Nat.zero_le _
    | cons e l ih =>
      intro hl
      have h1 := ih fun e he => hl e (by simp [he])
      have h2 := hl e (by simp)
      rw [cntS_cons, List.length_cons, Nat.succ_mul]
      omega
  have := hk xs hs
  show xs.length + cntS shEntry.cnt xs ≤ _
  omega
/-- AddEntry's answer. -/
noncomputable def adP (xs : List EntryM) (s : ByteArray) (a : AlgebraM) : List EntryM × Bool := if catB xs && (nameB s && (smallB a && catB (insM xs (s, canA a)))) then (insM xs (s, canA a), true) else ([], false)
theorem ad_no1 {xs : List EntryM} {s : ByteArray} {a : AlgebraM} (h : catB xs = false) : adP xs s a = ([], false) := by unfold adP; rw [h]; rfl
theorem ad_no2 {xs : List EntryM} {s : ByteArray} {a : AlgebraM} (h : nameB s = false) : adP xs s a = ([], false) := by unfold adP; rw [h, Bool.false_and, Bool.and_false]; rfl
theorem ad_no3 {xs : List EntryM} {s : ByteArray} {a : AlgebraM} (h : smallB a = false) : adP xs s a = ([], false) := by unfold adP; rw [h, Bool.false_and, Bool.and_false, Bool.and_false]; rfl
theorem ad_no4 {xs : List EntryM} {s : ByteArray} {a : AlgebraM} (h : catB (insM xs (s, canA a)) = false) : adP xs s a = ([], false) := by unfold adP; rw [h, Bool.and_false, Bool.and_false, Bool.and_false]; rfl
theorem ad_yes {xs : List EntryM} {s : ByteArray} {a : AlgebraM} (h1 : catB xs = true) (h2 : nameB s = true) (h3 : smallB a = true) (h4 : catB (insM xs (s, canA a)) = true) : adP xs s a = (insM xs (s, canA a), true) := by unfold adP; rw [h1, h2, h3, h4]; rfl
theorem adP_cnt {xs : List EntryM} {s : ByteArray} {a : AlgebraM} : (Sh.rows shEntry 33).cnt (adP xs s a).1 ≤ 1048576 := by
  unfold adP
  split
  · rename_i h
    simp only [Bool.and_eq_true] at h
    exact cat_cnt h.2.2.2
  · show 0 + 0 ≤ _
    omega
end Go.Proofs.Ytkmgbdljiajlaaa
