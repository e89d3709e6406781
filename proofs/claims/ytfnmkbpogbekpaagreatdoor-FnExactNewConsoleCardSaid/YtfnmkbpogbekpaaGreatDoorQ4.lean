/- Parts of the proof: PaI, ApN, PG, RfS, Hom, Par, Push, HomS, RfX, ClL, FIdx, LabI, LabS, Cong, True, HoldS, HoldT, GenS, TrueS. -/
import Derived.Test.YtfnmkbpogbekpaaGreatDoorQ2
import Derived.Test.YtfnmkbpogbekpaaGreatDoorQ3
import Derived.Test.YtfnmkbpogbekpaaGreatDoorQ1
import Derived.Test.YtfnmkbpogbekpaaGreatDoorShelf
import Derived.Sort.OwnSortedInts
import Derived.Deep.CutBlock
import Derived.Deep.RegionLaw
namespace Go.Proofs.YtfnmkbpogbekpaaGreatDoor
open Go.RowKit
set_option linter.unusedVariables false
set_option linter.unusedSimpArgs false

noncomputable def paA (s : ByteArray) : AlgebraM := (parA s).getD (0, [])
noncomputable def paB (s : ByteArray) : Bool := (parA s).isSome
theorem pa_some {s : ByteArray} {x : AlgebraM} (h : parA s = some x) : paA s = x ∧ paB s = true := by unfold paA paB; rw [h]; exact ⟨rfl, rfl⟩
theorem pa_none {s : ByteArray} (h : parA s = none) : paA s = (0, []) ∧ paB s = false := by unfold paA paB; rw [h]; exact ⟨rfl, rfl⟩
theorem pa_no {s : ByteArray} (h : ∀ x, GoodA x → s = mk (txA x) → False) : paA s = (0, []) ∧ paB s = false := pa_none (parA_none fun x h1 h2 => h x h1 h2)
theorem alg_zero (w : World) : shAlgebra.own w [.int .i64 0, .slice none 0 0] (0, []) [] :=
  ⟨[.int .i64 0], [.slice none 0 0], [], [], rfl, rfl, ⟨_, rfl, ⟨rfl, by decide, by decide⟩, rfl⟩, ⟨_, [], [], rfl, ⟨⟨rfl, .inl ⟨rfl, rfl⟩⟩, rfl, rfl, fun k c x bk h => by simp at h⟩, rfl⟩⟩
theorem OwA_no {w w' : World} {s : ByteArray} (h : paA s = (0, []) ∧ paB s = false) (hb : Below w.heap.size w w') : OwA shAlgebra w (paA s) (paB s) (.returned (.tuple #[.agg #[.int .i64 0, .slice none 0 0], .bool false])) w' := by
  rw [h.1, h.2]
  exact ⟨_, [], rfl, alg_zero w', Iv.nil _ _, hb⟩
/-- What the pieces of a good text are. -/
theorem good_bs {s : ByteArray} {x : AlgebraM} (h : GoodA x) (e : s = mk (txA x)) : Lib.split (bs s) [59, 32] = Lib.itoa x.1 :: (x.2.map fun o => joinB [32] (wsT o.2)) ∧ InD x.1 ∧ OpsIs x.1.toNat (x.2.map fun o => joinB [32] (wsT o.2)) x.2 := by
  rw [e, bs_of]
  exact good_parts h
theorem split_pos (s sep : Bs) : 0 < (Lib.split s sep).length := by
  unfold Lib.split
  cases Lib.count s sep with
  | zero => exact Nat.one_pos
  | succ k =>
    unfold Lib.splitK
    split
    · exact Nat.one_pos
    · simp
theorem rdl_tail {α : Type} {R : World → Value → α → Prop} {w : World} {g o n : Nat} {x : α} {xs : List α} (h : RdL R w (some ⟨g, o, none⟩) (n + 1) (x :: xs)) : RdL R w (some ⟨g, o + 1, none⟩) n xs := by
  obtain ⟨h1, h2, h3⟩ := h
  refine ⟨by simpa using h1, by omega, fun k y hk => ?_⟩
  obtain ⟨b, o', v, e, hc, hr⟩ := h3 (k + 1) y hk
  injection e with e
  injection e with e1 e2
  subst e1
  subst e2
  exact ⟨_, _, v, rfl, by rw [← hc]; congr 2; omega, hr⟩
theorem splitK_piece {sep : Bs} : ∀ (k : Nat) (l : Bs), ∀ p ∈ Lib.splitK sep 0 k l, p.length ≤ l.length
  | 0, l, p, h => by
    rw [Lib.splitK] at h
    rw [List.mem_singleton.1 h]
    exact Nat.le_refl _
  | k + 1, l, p, h => by
    rw [Lib.splitK] at h
    split at h
    · rw [List.mem_singleton.1 h]
      exact Nat.le_refl _
    · rcases List.mem_cons.1 h with rfl | h
      · rw [List.length_take]; omega
      · have := splitK_piece k _ p h
        rw [List.length_drop] at this
        omega
theorem split_piece {l sep : Bs} : ∀ p ∈ Lib.split l sep, p.length ≤ l.length := fun p h => splitK_piece _ _ p h
theorem split_le (l sep : Bs) (h : 1 ≤ sep.length) : (Lib.split l sep).length ≤ l.length + 2 := by
  have h1 := splitB_map (mk l) (mk sep)
  rw [bs_of, bs_of] at h1
  rw [← h1, List.length_map, countB_len (mk l) (mk sep) h]
  have h3 : Lib.countB (mk l) (mk sep) ≤ (bs (mk l)).length + 1 := Lib.count_le _ _
  rw [bs_of] at h3
  omega
theorem rdS_at {w w' : World} {g o n : Nat} {xs : List Bs} (h : RdL RSb w (some ⟨g, o, none⟩) n xs) (hs : w'.heap[g]? = w.heap[g]?) : RdL RSb w' (some ⟨g, o, none⟩) n xs := by
  refine ⟨h.1, h.2.1, fun k x hk => ?_⟩
  obtain ⟨b, o', v, e, hc, hr⟩ := h.2.2 k x hk
  injection e with e
  injection e with e1 e2
  subst e1
  subst e2
  exact ⟨_, _, v, rfl, (World.cell?_of_block (w := w) hs).trans hc, hr⟩
theorem OpsIs.nil (n : Nat) : OpsIs n [] [] := ⟨rfl, fun k p o h => by simp at h⟩
theorem OpsIs.snoc {n : Nat} {ps : List Bs} {ops : List OpM} (h : OpsIs n ps ops) {p : Bs} {T : List Int} (hw : WsIs (Lib.split p [32]) T) : OpsIs n (ps ++ [p]) (ops ++ [(arL n T.length, T)]) := by
  refine ⟨by simp [h.1], fun k q o h1 h2 => ?_⟩
  by_cases hk : k < ps.length
  · rw [List.getElem?_append_left hk] at h1
    rw [List.getElem?_append_left (by rw [← h.1]; exact hk)] at h2
    exact h.2 k q o h1 h2
  · have hl := (List.getElem?_eq_some_iff.1 h1).1
    rw [List.length_append, List.length_singleton] at hl
    have e : k = ps.length := by omega
    subst e
    rw [List.getElem?_append_right (Nat.le_refl _), Nat.sub_self] at h1
    rw [h.1, List.getElem?_append_right (Nat.le_refl _), Nat.sub_self] at h2
    simp at h1 h2
    subst h1
    subst h2
    exact ⟨hw, rfl⟩
theorem OpsIs.unique {n : Nat} {ps : List Bs} {a b : List OpM} (h : OpsIs n ps a) (h' : OpsIs n ps b) : a = b := by
  apply List.ext_getElem?
  intro k
  by_cases hk : k < ps.length
  · have ea : a[k]? = some (a[k]'(by rw [← h.1]; exact hk)) := List.getElem?_eq_getElem _
    have eb : b[k]? = some (b[k]'(by rw [← h'.1]; exact hk)) := List.getElem?_eq_getElem _
    obtain ⟨⟨a1, -⟩, a2⟩ := h.2 k _ _ (List.getElem?_eq_getElem hk) ea
    obtain ⟨⟨b1, -⟩, b2⟩ := h'.2 k _ _ (List.getElem?_eq_getElem hk) eb
    have e := wsT_inj (a1.symm.trans b1)
    rw [ea, eb]
    congr 1
    refine Prod.ext ?_ e
    rw [a2, b2, e]
  · rw [List.getElem?_eq_none (by rw [← h.1]; omega), List.getElem?_eq_none (by rw [← h'.1]; omega)]
theorem WsIs.bad {ws : List Bs} {j : Nat} {p : Bs} (hj : ws[j]? = some p) (hr : readI (mk p) = none) : ∀ T, ¬ WsIs ws T := fun T h => by
  obtain ⟨h1, h2⟩ := h
  rw [h1] at hj
  unfold wsT at hj
  rw [List.getElem?_map] at hj
  cases hv : T[j]? with
  | none => rw [hv] at hj; cases hj
  | some v =>
    rw [hv] at hj
    injection hj with hj
    have := readI_some (h2 v (List.mem_of_getElem? hv)) (show mk p = mk (Lib.itoa v) by rw [← hj])
    rw [hr] at this
    cases this
/-- A slice from its second element on. -/
theorem run_slice_one {P : Program} (t e : TypeId) (i : TypeInfo) (A : Option Addr) (n c : Nat) (ht : P.underlying t = some (.slice e)) (hi : P.info? e = some i) (h1 : 1 ≤ n) (w : World) :
    (Instr.slice t (.slice A n c) (some (.int .i64 1)) none none).run P w = .ok (.slice (if c = 1 then A else A.map (·.add (1 * i.size))) (n - 1) (c - 1)) w := by
  have h2 : (1 : Int) ≤ (n : Int) := by omega
  simp [Instr.slice, run_underlying ht, Instr.sliceBounds, run_sliceBound, sizeOf, typeInfo, hi, h2]
set_option maxRecDepth 100000 in
set_option maxHeartbeats 16000000 in
theorem parseAlgebra_any (s : ByteArray) (w : World) (hs : s.size ≤ 1048576) (ht : TabP w) :
    Calls Tryz.prog 44 #[.string s] w (OwA shAlgebra w (paA s) (paB s)) := by
  obtain ⟨w0, hw0, T0, hsz0, BR⟩ := boxes1 w #[.int .i64 0, .slice none 0 0] 24
  have HW0 := Lib.hid hw0
  obtain ⟨P, HP⟩ : ∃ P, Hid (Lib.split (bs s) [59, 32] = P) := ⟨_, Lib.hid rfl⟩
  have hp0 : 0 < P.length := by rw [← HP.out]; exact split_pos _ _
  have HSP : Hid (Calls Tryz.prog 80 #[.string s, .string ⟨#[59, 32]⟩] w0 fun e w' => e = .returned (.slice (some ⟨w0.heap.size, 0, none⟩) P.length P.length) ∧ RdL RSb w' (some ⟨w0.heap.size, 0, none⟩) P.length P ∧ Below w0.heap.size w0 w') := by
    have := split_lib_any s ⟨#[59, 32]⟩ w0 (by omega) (by decide) (ht.next T0)
    rw [show bs (⟨#[59, 32]⟩ : ByteArray) = [59, 32] from rfl, HP.out] at this
    exact this
  have HTB : Hid (∀ wz, Below w0.heap.size w0 wz → TabP wz) := fun wz hz => (ht.next T0).next hz
  have HT0 := Lib.hid T0
  have hz0 : w.heap.size < w0.heap.size := by omega
  obtain ⟨p0, ps, rfl⟩ : ∃ p ps, P = p :: ps := by
    rcases P with _ | ⟨p, ps⟩
    · simp at hp0
    · exact ⟨p, ps, rfl⟩
  rw [List.length_cons] at HSP
  have hpl : ps.length + 1 ≤ 1048578 := by
    have h1 := congrArg List.length HP.out
    rw [List.length_cons] at h1
    have h2 : (Lib.split (bs s) [59, 32]).length = Lib.countB s ⟨#[59, 32]⟩ + 1 := by
      have := splitB_map s ⟨#[59, 32]⟩
      rw [show bs (⟨#[59, 32]⟩ : ByteArray) = [59, 32] from rfl] at this
      rw [← this, List.length_map, countB_len _ _ (by decide)]
    have h3 : Lib.countB s ⟨#[59, 32]⟩ ≤ s.size + 1 := Lib.count_le _ _
    omega
  have HPS : Hid (∀ p ∈ p0 :: ps, p.length ≤ 1048576) := fun p hp => by
    rw [← HP.out] at hp
    have h1 := split_piece p hp
    have h2 : (bs s).length = s.size := rfl
    omega
  have HG : Hid (∀ x, GoodA x → s = mk (txA x) → p0 = Lib.itoa x.1 ∧ ps = (x.2.map fun o => joinB [32] (wsT o.2)) ∧ InD x.1 ∧ OpsIs x.1.toNat ps x.2) := fun x h1 h2 => by
    obtain ⟨h3, h4, h5⟩ := good_bs h1 h2
    rw [HP.out] at h3
    injection h3 with h3 h6
    exact ⟨h3, h6, h4, by rw [h6]; exact h5⟩
  clear hw0 hsz0 ht T0 hp0
  go_enter Tryz.func44, Tryz.ntmps44
  go_upto_region 1 with fail
  rw [← HW0.out]
  go_wp2_with fail
  refine HSP.out.mono ?_
  rintro e w1 ⟨rfl, hRP, hb1⟩
  have BR1 := BR.next hb1
  have hc0 : w1.cell? ⟨w0.heap.size, 0, none⟩ = some (.string (mk p0)) := by
    obtain ⟨b, o, v, e, hc, hr⟩ := hRP.2.2 0 p0 rfl
    injection e with e
    injection e with e1 e2
    subst e1
    subst e2
    rw [show v = .string (mk p0) from hr] at hc
    exact hc
  have hRT := rdl_tail hRP
  have hRPl : (0 : Int) < ((ps.length + 1 : Nat) : Int) := by omega
  have HPI := Lib.hid (parseInt_any (mk p0) w1 (by have := HPS.out p0 (List.mem_cons_self ..); rw [size_mk]; omega) (HTB.out w1 hb1))
  clear hRP
  go_wp2_with fail
  refine HPI.out.mono ?_
  rintro e w2 ⟨rfl, hb2⟩
  have hb12 := below_next hb1 hb2 rfl
  have BR2 := BR1.next hb2
  have T2 := below_next HT0.out hb12 rfl
  have BRZ : Blk ((w2.setCell ⟨w.heap.size, 0, none⟩ (.int .i64 0)).setCell ⟨w.heap.size, 1, none⟩ (.slice none 0 0)) w.heap.size 24 #[.int .i64 0, .slice none 0 0] := by simpa using (BR2.set_ 0 (.int .i64 0)).set_ 1 (.slice none 0 0)
  have HNO : Hid ((paA s = (0, []) ∧ paB s = false) → OwA shAlgebra w (paA s) (paB s) (.returned (.tuple #[.agg #[.int .i64 0, .slice none 0 0], .bool false])) ((w2.setCell ⟨w.heap.size, 0, none⟩ (.int .i64 0)).setCell ⟨w.heap.size, 1, none⟩ (.slice none 0 0))) := fun h => OwA_no h ((T2.setCell (p := ⟨w.heap.size, 0, none⟩) (Nat.le_refl _) _).setCell (p := ⟨w.heap.size, 1, none⟩) (Nat.le_refl _) _)
  have cR0 := BR2.cell 0
  have cR1 := BR2.cell 1
  have fR0 := BR2.frozen 0
  have fR1 := BR2.frozen 1
  simp at cR0 cR1
  have HBZ := Lib.hid BRZ
  clear BRZ
  cases hr : readI (mk p0) with
  | none =>
    have HR := Lib.hid (rd_none hr)
    have HX : Hid (paA s = (0, []) ∧ paB s = false) := pa_no fun x h1 h2 => by
      obtain ⟨h3, -, h4, -⟩ := HG.out x h1 h2
      have := readI_some h4 (show mk p0 = mk (Lib.itoa x.1) by rw [h3])
      rw [hr] at this
      cases this
    rw [HR.out.1, HR.out.2]
    clear hr
    go_wp2_with fail
    (try simp only [Exit.inBlock, Exit.then])
    refine bodyPost_ret (v := .tuple #[.agg #[.int .i64 0, .slice none 0 0], .bool false]) (res_row_tmpF rfl _ _ w.heap.size 24 #[.int .i64 0, .slice none 0 0] (0, 0) _ _ (by simp) HBZ.out Tryz.underlying24 rfl (by kernel_rfl) (by simp)) rfl ?_
    exact HNO.out HX.out
  | some z =>
    have HR := Lib.hid (rd_some hr)
    have hz := readI_iff.1 hr
    have hpz : p0 = Lib.itoa z := mk_inj hz.2
    have HZ : Hid (∀ x, GoodA x → s = mk (txA x) → x.1 = z ∧ ps = (x.2.map fun o => joinB [32] (wsT o.2)) ∧ OpsIs z.toNat ps x.2 ∧ AlgP x) := fun x h1 h2 => by
      obtain ⟨h3, h4, -, h5⟩ := HG.out x h1 h2
      rw [hpz] at h3
      have e := itoa_inj h3
      subst e
      exact ⟨rfl, h4, h5, h1.1⟩
    have hzb := hz.1
    unfold InD at hzb
    rw [HR.out.1, HR.out.2]
    clear hr hz hpz
    by_cases hn1 : z < 1
    · have HX : Hid (paA s = (0, []) ∧ paB s = false) := pa_no fun x h1 h2 => by
        obtain ⟨h3, -, -, h5⟩ := HZ.out x h1 h2
        have := h5.1
        omega
      go_wp2_with fail
      (try simp only [Exit.inBlock, Exit.then])
      refine bodyPost_ret (v := .tuple #[.agg #[.int .i64 0, .slice none 0 0], .bool false]) (res_row_tmpF rfl _ _ w.heap.size 24 #[.int .i64 0, .slice none 0 0] (0, 0) _ _ (by simp) HBZ.out Tryz.underlying24 rfl (by kernel_rfl) (by simp)) rfl ?_
      exact HNO.out HX.out
    by_cases hn8 : 8 < z
    · have HX : Hid (paA s = (0, []) ∧ paB s = false) := pa_no fun x h1 h2 => by
        obtain ⟨h3, -, -, h5⟩ := HZ.out x h1 h2
        have := h5.2.1
        omega
      go_wp2_with fail
      (try simp only [Exit.inBlock, Exit.then])
      refine bodyPost_ret (v := .tuple #[.agg #[.int .i64 0, .slice none 0 0], .bool false]) (res_row_tmpF rfl _ _ w.heap.size 24 #[.int .i64 0, .slice none 0 0] (0, 0) _ _ (by simp) HBZ.out Tryz.underlying24 rfl (by kernel_rfl) (by simp)) rfl ?_
      exact HNO.out HX.out
    by_cases hl5 : (5 : Int) < ((ps.length + 1 : Nat) : Int)
    · have HX : Hid (paA s = (0, []) ∧ paB s = false) := pa_no fun x h1 h2 => by
        obtain ⟨h3, h4, -, h5⟩ := HZ.out x h1 h2
        have := h5.2.2.1
        have := congrArg List.length h4
        rw [List.length_map] at this
        omega
      go_wp2_with fail
      (try simp only [Exit.inBlock, Exit.then])
      refine bodyPost_ret (v := .tuple #[.agg #[.int .i64 0, .slice none 0 0], .bool false]) (res_row_tmpF rfl _ _ w.heap.size 24 #[.int .i64 0, .slice none 0 0] (0, 0) _ _ (by simp) HBZ.out Tryz.underlying24 rfl (by kernel_rfl) (by simp)) rfl ?_
      exact HNO.out HX.out
    obtain ⟨n, rfl⟩ : ∃ n : Nat, z = (n : Int) := ⟨z.toNat, by omega⟩
    have hn1' : 1 ≤ n := by omega
    have hn8' : n ≤ 8 := by omega
    have h1l : (1 : Int) ≤ ((ps.length + 1 : Nat) : Int) := by omega
    go_upto_region 6 with fail
    obtain ⟨w3, HW3⟩ : ∃ x, Hid (x = w2.alloc (.cells #[.int .i64 n, .slice none 0 0] 24)) := ⟨_, Lib.hid rfl⟩
    rw [← HW3.out]
    have hb3 : Below w2.heap.size w2 w3 := by rw [HW3.out]; exact below_box _ _
    have BA3 : Blk w3 w2.heap.size 24 #[.int .i64 n, .slice none 0 0] := by rw [HW3.out]; exact Blk.new _ _ _
    have hb23 := below_next hb2 hb3 rfl
    have HRT3 : Hid (RdL RSb w2 (some ⟨w0.heap.size, 1, none⟩) ps.length ps) := hRT.next stab_RSb hb2
    obtain ⟨i0, hi0, -, hi1, -⟩ := info_parts info_str16
    obtain ⟨A43, HA43⟩ : ∃ A, Hid (A = if ps.length + 1 = 1 then some (⟨w0.heap.size, 0, none⟩ : Addr) else (some (⟨w0.heap.size, 0, none⟩ : Addr)).map (·.add (1 * i0.size))) := ⟨_, Lib.hid rfl⟩
    have hsl : ∀ wz, (Instr.slice 117 (.slice (some ⟨w0.heap.size, 0, none⟩) (ps.length + 1) (ps.length + 1)) (some (.int .i64 1)) none none).run Tryz.prog wz = .ok (.slice A43 ps.length ps.length) wz := fun wz => by
      have := run_slice_one (P := Tryz.prog) 117 9 i0 (some ⟨w0.heap.size, 0, none⟩) (ps.length + 1) (ps.length + 1) Tryz.underlying117 hi0 (by omega) wz
      rw [this, HA43.out]
      rfl
    have HA : Hid (RdL RSb w2 A43 ps.length ps) := by
      show RdL _ _ _ _ _
      rw [HA43.out]
      by_cases h0 : ps = []
      · subst h0
        exact RdL.nil _ _ _
      · have : ¬ ps.length + 1 = 1 := by have := List.length_pos_iff.2 h0; omega
        rw [if_neg this, hi1]
        exact HRT3.out
    clear hi0 hi1
    go_cut [43, 44, 45] from 42 to 45 (fun u43 u44 u45 wx => w3 = wx ∧ u44 = .int .i64 (ps.length : Int) ∧ u45 = .int .i64 0 ∧ ∃ A c, u43 = .slice A ps.length c ∧ RdL RSb w2 A ps.length ps)
    case first =>
      go_wp2_with fail
      go_meet
      exact ⟨rfl, rfl, rfl, A43, ps.length, rfl, HA.out⟩
    case rest =>
      obtain ⟨rfl, rfl, rfl, A, c, rfl, hrA⟩ := hcut
      have HRA := Lib.hid hrA
      have HBR := Lib.hid BR2
      have HT2 := Lib.hid T2
      have HB12 := Lib.hid hb12
      have HPB : Hid (∀ p ∈ ps, p.length ≤ 1048576) := fun p hp => HPS.out p (List.mem_cons_of_mem _ hp)
      have hlL : ps.length ≤ 4 := by omega
      have hwz : w.heap.size < w2.heap.size := BR2.lt
      clear hRT HRT3 hb23 hb2 hb12 hb1 BR1 cR0 cR1 fR0 fR1 HBZ HNO HPI HSP hl5 h1l hsl HA HA43 hrA BR2 T2 hRPl hc0
      go_wp2_with fail
      go_loopw [45] (fun i wr => ∃ (k : Nat) (ops : List OpM) (v : Value) (css : List (List Value)) (bls : List (List Nat)), k ≤ ps.length ∧ i = .int .i64 (k : Int) ∧ Blk wr w2.heap.size 24 #[.int .i64 n, v] ∧ PO (w2.heap.size + 1) wr v ops css bls ∧ Hid (OpsIs n (ps.take k) ops) ∧ Below w2.heap.size w2 wr) (fun i _ => ps.length - (intOf i).toNat)
      case atStart => exact ⟨0, [], _, [], [], Nat.zero_le _, rfl, BA3, PO.nil _ _, Lib.hid (by rw [List.take_zero]; exact OpsIs.nil _), hb3⟩
      case round =>
        clear BA3 hb3 HW3
        obtain ⟨k, ops, v, css, bls, hk, rfl, BA, hPO, HOI, hB2⟩ := hrel
        obtain ⟨wo, rfl⟩ : ∃ x : World, x = wr := ⟨_, rfl⟩
        have hlo : w2.heap.size + 1 ≤ wo.heap.size := BA.lt
        by_cases hlt : k < ps.length
        · have hk0 : (0 : Int) ≤ (k : Int) := by omega
          have hk1 : (k : Int) < (ps.length : Int) := by omega
          obtain ⟨bp, op, vp, p, rfl, hcp, hvp, -, hxp⟩ := (HRA.out.next stab_RSb hB2).at hlt
          have hvp' : vp = .string (mk p) := hvp
          subst hvp'
          have hpz := HPB.out p (List.mem_of_getElem? hxp)
          have HXP := Lib.hid hxp
          obtain ⟨W, HW⟩ : ∃ W, Hid (Lib.split p [32] = W) := ⟨_, Lib.hid rfl⟩
          have hWl : W.length ≤ 1048578 := by rw [← HW.out]; have := split_le p [32] (by decide); omega
          have HWP : Hid (∀ t ∈ W, t.length ≤ 1048576) := fun t ht => by
            rw [← HW.out] at ht
            have := split_piece t ht
            omega
          obtain ⟨w5, hw5, T5, hsz5, BX5⟩ := boxes1 wo #[.int .i64 0, .slice none 0 0] 122
          have HW5 := Lib.hid hw5
          have hz5 : wo.heap.size < w5.heap.size := BX5.lt
          have HSW : Hid (Calls Tryz.prog 80 #[.string (mk p), .string ⟨#[32]⟩] w5 fun e w' => e = .returned (.slice (some ⟨w5.heap.size, 0, none⟩) W.length W.length) ∧ RdL RSb w' (some ⟨w5.heap.size, 0, none⟩) W.length W ∧ Below w5.heap.size w5 w') := by
            have := split_lib_any (mk p) ⟨#[32]⟩ w5 (by rw [size_mk]; omega) (by decide) (HTB.out w5 (below_next HB12.out (hB2.trans (T5.mono (by omega))) rfl))
            rw [bs_of, show bs (⟨#[32]⟩ : ByteArray) = [32] from rfl, HW.out] at this
            exact this
          clear hw5 hxp hvp hsz5
          go_upto_region 10 with fail
          rw [← HW5.out]
          go_wp2_with fail
          refine HSW.out.mono ?_
          rintro e w6 ⟨rfl, hRW, hb6⟩
          have BX6 := BX5.next hb6
          have hT6 := below_next T5 hb6 rfl
          have HRW := Lib.hid hRW
          have hz6 := hb6.size
          clear T5 hb6 BX5 HSW hRW
          go_wp2_with fail
          go_loopw [53] (fun i wr => ∃ (j : Nat) (T : List Int) (A : Option Addr) (c : Nat), j ≤ W.length ∧ i = .int .i64 (j : Int) ∧ Blk wr wo.heap.size 122 #[.int .i64 0, .slice A j c] ∧ wr.ownsRow w6.heap.size 3 1 (.slice A j c) j (ints T) ∧ Hid (WsIs (W.take j) T) ∧ wr.heap[w5.heap.size]? = w6.heap[w5.heap.size]? ∧ Below wo.heap.size wo wr ∧ w6.heap.size ≤ wr.heap.size) (fun i _ => W.length - (intOf i).toNat)
          case atStart => exact ⟨0, [], none, 0, Nat.zero_le _, rfl, BX6, World.ownsRow_nil _ _ _ _, Lib.hid ⟨by rw [List.take_zero]; rfl, fun v hv => by cases hv⟩, rfl, hT6, Nat.le_refl _⟩
          case round =>
            clear BX6 hT6
            obtain ⟨j, T, At, ct, hj, rfl, BX, hown, HWT, hgk, hT, hz7⟩ := hrel
            by_cases hjl : j < W.length
            · have hj0 : (0 : Int) ≤ (j : Int) := by omega
              have hj1 : (j : Int) < (W.length : Int) := by omega
              obtain ⟨bq, oq, vq, q, e1, hcq, hvq, -, hxq⟩ := (rdS_at HRW.out hgk).at hjl
              injection e1 with e1
              injection e1 with e1 e2
              subst e1
              subst e2
              have hvq' : vq = .string (mk q) := hvq
              subst hvq'
              rw [Nat.zero_add] at hcq
              have hqz := HWP.out q (List.mem_of_getElem? hxq)
              have HXQ := Lib.hid hxq
              have hgo : w5.heap.size < w6.heap.size := by
                have := HRW.out.2.2 0 W[0] (List.getElem?_eq_getElem (by omega))
                obtain ⟨b, o, v, e, hc, -⟩ := this
                injection e with e
                injection e with e1 e2
                subst e1
                exact cell_lt hc
              have HPI2 := Lib.hid (parseInt_any (mk q) wr (by rw [size_mk]; omega) (HTB.out wr (below_next HB12.out (hB2.trans (hT.mono (by omega))) rfl)))
              clear hxq hvq
              go_wp2_with fail
              refine HPI2.out.mono ?_
              rintro e w7 ⟨rfl, hb7⟩
              have BX7 := BX.next hb7
              have hT7 := below_next hT hb7 rfl
              have hown7 := own_next hown hb7
              have hgk7 : w7.heap[w5.heap.size]? = w6.heap[w5.heap.size]? := (hb7.block _ (by omega)).trans hgk
              have hz77 := hb7.size
              cases hr : readI (mk q) with
              | none =>
                have HR := Lib.hid (rd_none hr)
                have HX : Hid (paA s = (0, []) ∧ paB s = false) := pa_no fun x h1 h2 => by
                  obtain ⟨h3, h4, h5, -⟩ := HZ.out x h1 h2
                  obtain ⟨o, ho⟩ : ∃ o, x.2[k]? = some o := ⟨x.2[k]'(by rw [← h5.1]; exact hlt), List.getElem?_eq_getElem _⟩
                  obtain ⟨h6, -⟩ := h5.2 k p o HXP.out ho
                  rw [HW.out] at h6
                  exact WsIs.bad HXQ.out hr _ h6
                have hT27 : Below w2.heap.size w2 w7 := hB2.trans (hT7.mono (by omega))
                have BR7 := HBR.out.below hT27 hwz
                have cR0 := BR7.cell 0
                have cR1 := BR7.cell 1
                have fR0 := BR7.frozen 0
                have fR1 := BR7.frozen 1
                simp at cR0 cR1
                have BRZ : Blk ((w7.setCell ⟨w.heap.size, 0, none⟩ (.int .i64 0)).setCell ⟨w.heap.size, 1, none⟩ (.slice none 0 0)) w.heap.size 24 #[.int .i64 0, .slice none 0 0] := by simpa using (BR7.set_ 0 (.int .i64 0)).set_ 1 (.slice none 0 0)
                have HBZ := Lib.hid BRZ
                have HTZ : Hid (Below w.heap.size w ((w7.setCell ⟨w.heap.size, 0, none⟩ (.int .i64 0)).setCell ⟨w.heap.size, 1, none⟩ (.slice none 0 0))) := ((below_next HT2.out hT27 rfl).setCell (p := ⟨w.heap.size, 0, none⟩) (Nat.le_refl _) _).setCell (p := ⟨w.heap.size, 1, none⟩) (Nat.le_refl _) _
                rw [HR.out.1, HR.out.2]
                clear hr BRZ BR7 hgk hgk7
                go_wp2_with fail
                (try simp only [Exit.inBlock, Exit.then])
                refine bodyPost_ret (v := .tuple #[.agg #[.int .i64 0, .slice none 0 0], .bool false]) (res_row_tmpF rfl _ _ w.heap.size 24 #[.int .i64 0, .slice none 0 0] (0, 0) _ _ (by simp) HBZ.out Tryz.underlying24 rfl (by kernel_rfl) (by simp)) rfl ?_
                exact OwA_no HX.out HTZ.out
              | some z =>
                have HR := Lib.hid (rd_some hr)
                have hz := readI_iff.1 hr
                have hqz2 : q = Lib.itoa z := mk_inj hz.2
                have hzb := hz.1
                unfold InD at hzb
                have HWN : Hid (WsIs (W.take (j + 1)) (T ++ [z])) := by
                  refine ⟨?_, fun u hu => ?_⟩
                  · rw [List.take_add_one, HXQ.out, HWT.out.1, hqz2]
                    simp [wsT]
                  · rcases List.mem_append.1 hu with hu | hu
                    · exact HWT.out.2 u hu
                    · rw [List.mem_singleton.1 hu]; exact hz.1
                rw [HR.out.1, HR.out.2]
                have cX0 := BX7.cell 0
                have cX1 := BX7.cell 1
                simp at cX0 cX1
                have hbase : w6.heap.size ≤ w7.heap.size := by omega
                clear hr hz hqz2 hgk BX hown hT hb7
                go_wp2_with (at_builtin; refine app1 w7 rfl _ _ 43 3 rfl (.int .i64 0) 8 Tryz.underlying43 info_int rfl (by decide) w6.heap.size j ct At (ints T) rfl hown7 (.int .i64 z) rfl rfl (by omega) hbase ?_; intro A8 c8 w8 hown8 hg8 hb8; have BX8 := BX7.grown hg8 (fun e => own_off hown7 BX7 (by decide) e.symm); have cX81 := BX8.cell 1; have fX81 := BX8.frozen 1; simp at cX81)
                have hgk8 : (w8.setCell ⟨wo.heap.size, 1, none⟩ (.slice A8 (j + 1) c8)).heap[w5.heap.size]? = w6.heap[w5.heap.size]? := by
                  rw [Below.heap_setCell w8 ⟨wo.heap.size, 1, none⟩ _ w5.heap.size (by show _ ≠ wo.heap.size; omega)]
                  exact (hb8.block _ hgo).trans hgk7
                have hT8 : Below wo.heap.size wo (w8.setCell ⟨wo.heap.size, 1, none⟩ (.slice A8 (j + 1) c8)) := (hT7.trans (hb8.mono (by omega))).setCell (p := ⟨wo.heap.size, 1, none⟩) (Nat.le_refl _) _
                have BX9 : Blk (w8.setCell ⟨wo.heap.size, 1, none⟩ (.slice A8 (j + 1) c8)) wo.heap.size 122 #[.int .i64 0, .slice A8 (j + 1) c8] := by simpa using BX8.set_ 1 (.slice A8 (j + 1) c8)
                have hown9 := own_setF (p := ⟨wo.heap.size, 1, none⟩) (u := .slice A8 (j + 1) c8) hown8 (by show wo.heap.size < w6.heap.size; omega)
                have hz9 : w6.heap.size ≤ (w8.setCell ⟨wo.heap.size, 1, none⟩ (.slice A8 (j + 1) c8)).heap.size := by simp; have := hb8.size; omega
                go_roundw
                case rel => exact ⟨j + 1, T ++ [z], A8, c8, by omega, by go_num, BX9, by simpa [ints] using hown9, HWN, hgk8, hT8, hz9⟩
                case measure => simp [intOf]; omega
            · obtain rfl : j = W.length := by omega
              have hj1 : ¬ (W.length : Int) < (W.length : Int) := by omega
              have HWF : Hid (WsIs (Lib.split p [32]) T) := by
                show WsIs _ _
                rw [HW.out]
                have := HWT.out
                rwa [List.take_of_length_le (Nat.le_refl _)] at this
              have htl : T.length = W.length := by
                have := congrArg List.length HWT.out.1
                rw [List.take_of_length_le (Nat.le_refl _), wsT_len] at this
                exact this.symm
              obtain ⟨ar, HAR⟩ : ∃ a, Hid (arL n W.length = a) := ⟨_, Lib.hid rfl⟩
              have HAO : Hid (∀ wz, Calls Tryz.prog 82 #[.int .i64 (W.length : Int), .int .i64 (n : Int)] wz fun e w' => e = .returned (.int .i64 ar) ∧ wz = w') := fun wz => by
                have := arityOf_any W.length n wz hn8'
                rwa [HAR.out] at this
              have har : -1 ≤ ar ∧ ar ≤ 3 := by
                rw [← HAR.out]
                unfold arL
                split
                · omega
                · split
                  · omega
                  · split
                    · omega
                    · split <;> omega
              have cX0 := BX.cell 0
              have cX1 := BX.cell 1
              have fX0 := BX.frozen 0
              simp at cX0 cX1
              obtain ⟨Ao, co, rfl⟩ := own_slice hPO.2.1
              obtain ⟨w8, HW8⟩ : ∃ x, Hid (x = wr.setCell ⟨wo.heap.size, 0, none⟩ (.int .i64 ar)) := ⟨_, Lib.hid rfl⟩
              have hT8 : Below wo.heap.size wo w8 := by rw [HW8.out]; exact hT.setCell (p := ⟨wo.heap.size, 0, none⟩) (Nat.le_refl _) _
              have BX8 : Blk w8 wo.heap.size 122 #[.int .i64 ar, .slice At W.length ct] := by rw [HW8.out]; simpa using BX.set_ 0 (.int .i64 ar)
              have hown8 : w8.ownsRow w6.heap.size 3 1 (.slice At W.length ct) W.length (ints T) := by rw [HW8.out]; exact own_setF (p := ⟨wo.heap.size, 0, none⟩) hown (by show wo.heap.size < w6.heap.size; omega)
              have hsz8 : w8.heap.size = wr.heap.size := by rw [HW8.out]; simp
              have BAr := BA.next hT
              have cAr := BAr.cell 1
              simp at cAr
              have hneA : w2.heap.size ≠ wo.heap.size := by omega
              have BA8 := BA.next hT8
              have cA1 := BA8.cell 1
              have fA1 := BA8.frozen 1
              have cX80 := BX8.cell 0
              have cX81 := BX8.cell 1
              simp at cA1 cX80 cX81
              have hO8 : shOp.own w8 [.int .i64 ar, .slice At W.length ct] (ar, T) (obl (.slice At W.length ct)) := by
                refine ⟨[.int .i64 ar], [.slice At W.length ct], [], obl (.slice At W.length ct), rfl, rfl, ⟨_, rfl, ⟨rfl, by omega, by omega⟩, rfl⟩, ⟨_, rfl, ?_, ?_, rfl⟩⟩
                · show w8.ownsRow 0 3 1 _ T.length _
                  rw [htl]
                  exact own_mono hown8 (Nat.zero_le _)
                · intro u hu
                  have := HWF.out.2 u hu
                  unfold InD at this
                  exact ⟨by omega, by omega⟩
              have hiv8 : Iv wo.heap.size w8.heap.size (obl (.slice At W.length ct)) := (obl_iv hown8).mono (by omega) (Nat.le_refl _)
              obtain ⟨hvs, HPU⟩ := hPO.push hT8 hlo hO8 hiv8
              have hol : ops.length ≤ 4 := by
                have := HOI.out.1
                rw [List.length_take] at this
                omega
              have hl8 : w2.heap.size + 1 ≤ w8.heap.size := by have := hT8.size; omega
              have HON : Hid (OpsIs n (ps.take (k + 1)) (ops ++ [(ar, T)])) := by
                show OpsIs _ _ _
                rw [List.take_add_one, HXP.out, ← HAR.out, ← htl]
                exact HOI.out.snoc HWF.out
              have hB28 : Below w2.heap.size w2 w8 := hB2.trans (hT8.mono (by omega))
              clear hgk hown hPO BA hO8 hiv8 cA1
              go_wp2_with (first
                | (go_at_call 82; refine (HAO.out _).mono ?_; rintro e w' ⟨rfl, rfl⟩)
                | (at_builtin; go_loud (rw [← HW8.out]; refine app2 w8 rfl _ _ 22 122 rfl (.agg #[.int .i64 0, .slice none 0 0]) 32 Tryz.underlying22 info_op2 rfl (by decide) (w2.heap.size + 1) ops.length co Ao css.flatten rfl hvs (.int .i64 ar) (.slice At W.length ct) rfl rfl (by rw [hsz8]; rfl) (by omega) hl8 ?_; intro A9 c9 w9 hown9 hg9 hb9; have BA9 := BA8.grown hg9 (fun e => own_off hvs BA8 (by decide) e.symm); have cA91 := BA9.cell 1; have fA91 := BA9.frozen 1; simp at cA91)))
              have PN := (HPU hown9 hg9).far (p := ⟨w2.heap.size, 1, none⟩) (by show w2.heap.size < w2.heap.size + 1; omega) (.slice A9 (ops.length + 1) c9)
              have BA10 : Blk (w9.setCell ⟨w2.heap.size, 1, none⟩ (.slice A9 (ops.length + 1) c9)) w2.heap.size 24 #[.int .i64 n, .slice A9 (ops.length + 1) c9] := by simpa using BA9.set_ 1 (.slice A9 (ops.length + 1) c9)
              have hB10 : Below w2.heap.size w2 (w9.setCell ⟨w2.heap.size, 1, none⟩ (.slice A9 (ops.length + 1) c9)) := (hB28.trans (hb9.mono (by omega))).setCell (p := ⟨w2.heap.size, 1, none⟩) (Nat.le_refl _) _
              go_roundw
              case rel => exact ⟨k + 1, _, _, _, _, by omega, by go_num, BA10, PN, HON, hB10⟩
              case measure => simp [intOf]; omega
        · obtain rfl : k = ps.length := by omega
          have hk1 : ¬ (ps.length : Int) < (ps.length : Int) := by omega
          have HOF : Hid (OpsIs n ps ops) := by
            have := HOI.out
            rwa [List.take_of_length_le (Nat.le_refl _)] at this
          have cA0 := BA.cell 0
          have cA1 := BA.cell 1
          simp at cA0 cA1
          obtain ⟨Ao, co, rfl⟩ := own_slice hPO.2.1
          have hral : shAlgebra.rd wo [.int .i64 (n : Int), .slice Ao ops.length co] ((n : Int), ops) := shAlgebra.ord (hPO.algO (a := (n : Int)) ⟨by omega, by omega⟩)
          have HIA := Lib.hid (isAlgebra_any _ _ wo hral)
          obtain ⟨ab, HAB⟩ : ∃ b, Hid (algB ((n : Int), ops) = b) := ⟨_, Lib.hid rfl⟩
          rw [HAB.out] at HIA
          have HUX : Hid (∀ x, GoodA x → s = mk (txA x) → x = ((n : Int), ops)) := fun x h1 h2 => by
            obtain ⟨h3, -, h5, -⟩ := HZ.out x h1 h2
            exact Prod.ext h3 ((OpsIs.unique HOF.out h5).symm)
          have HARP : Hid (ArP ((n : Int), ops)) := fun o ho => by
            obtain ⟨i, hi⟩ := List.getElem?_of_mem ho
            have hil := (List.getElem?_eq_some_iff.1 hi).1
            have := HOF.out.2 i _ o (List.getElem?_eq_getElem (by rw [HOF.out.1]; exact hil)) hi
            exact this.2
          rcases ab with _ | _
          · have HX : Hid (paA s = (0, []) ∧ paB s = false) := pa_no fun x h1 h2 => by
              have e := HUX.out x h1 h2
              have := alg_iff.2 h1.1
              rw [e, HAB.out] at this
              cases this
            go_wp2_with fail
            refine HIA.out.mono ?_
            rintro e w7 ⟨rfl, hb7⟩
            have hT27 := hB2.trans (hb7.mono (by omega))
            have BRz := HBR.out.below hT27 hwz
            have cR0 := BRz.cell 0
            have cR1 := BRz.cell 1
            have fR0 := BRz.frozen 0
            have fR1 := BRz.frozen 1
            simp at cR0 cR1
            have BRZ : Blk ((w7.setCell ⟨w.heap.size, 0, none⟩ (.int .i64 0)).setCell ⟨w.heap.size, 1, none⟩ (.slice none 0 0)) w.heap.size 24 #[.int .i64 0, .slice none 0 0] := by simpa using (BRz.set_ 0 (.int .i64 0)).set_ 1 (.slice none 0 0)
            have HBZ := Lib.hid BRZ
            have HTZ : Hid (Below w.heap.size w ((w7.setCell ⟨w.heap.size, 0, none⟩ (.int .i64 0)).setCell ⟨w.heap.size, 1, none⟩ (.slice none 0 0))) := ((below_next HT2.out hT27 rfl).setCell (p := ⟨w.heap.size, 0, none⟩) (Nat.le_refl _) _).setCell (p := ⟨w.heap.size, 1, none⟩) (Nat.le_refl _) _
            clear BRZ BRz
            go_wp2_with fail
            (try simp only [Exit.inBlock, Exit.then])
            refine bodyPost_ret (v := .tuple #[.agg #[.int .i64 0, .slice none 0 0], .bool false]) (res_row_tmpF rfl _ _ w.heap.size 24 #[.int .i64 0, .slice none 0 0] (0, 0) _ _ (by simp) HBZ.out Tryz.underlying24 rfl (by kernel_rfl) (by simp)) rfl ?_
            exact OwA_no HX.out HTZ.out
          · have hAP := alg_iff.1 HAB.out
            have HAP := Lib.hid hAP
            have HRAL := Lib.hid hral
            obtain ⟨X, HXT⟩ : ∃ X, Hid (mk (txA ((n : Int), ops)) = X) := ⟨_, Lib.hid rfl⟩
            have HAT : Hid (∀ wz, Below wo.heap.size wo wz → Calls Tryz.prog 83 #[.agg #[.int .i64 (n : Int), .slice Ao ops.length co]] wz (Bl wz (.string X))) := fun wz hz => by
              have := algebraText_any [.int .i64 (n : Int), .slice Ao ops.length co] ((n : Int), ops) wz (shAlgebra.stab HRAL.out hz.block) HAP.out (HTB.out wz (below_next HB12.out (hB2.trans (hz.mono (by omega))) rfl)).1
              rwa [HXT.out] at this
            clear hAP hral
            go_wp2_with fail
            refine HIA.out.mono ?_
            rintro e w7 ⟨rfl, hb7⟩
            have hT27 := hB2.trans (hb7.mono (by omega))
            have dA0 := keepc hb7 cA0
            have dA1 := keepc hb7 cA1
            go_wp2_with fail
            refine (HAT.out w7 hb7).mono ?_
            rintro e w8 ⟨rfl, hb8⟩
            have hb78 := below_next hb7 hb8 rfl
            have hT28 : Below w2.heap.size w2 w8 := hB2.trans (hb78.mono (by omega))
            have BRz := HBR.out.below hT28 hwz
            have cR0 := BRz.cell 0
            have cR1 := BRz.cell 1
            have fR0 := BRz.frozen 0
            have fR1 := BRz.frozen 1
            simp at cR0 cR1
            by_cases he : X = s
            · have hd : (X.toList == s.toList) = true := eqq_str (eqC_iff.2 he)
              have HGO : Hid (paA s = ((n : Int), ops) ∧ paB s = true) := pa_some (parA_some ⟨HAP.out, HARP.out⟩ (by rw [HXT.out]; exact he.symm))
              have eA0 := keepc hb8 dA0
              have eA1 := keepc hb8 dA1
              have hneA : w2.heap.size ≠ w.heap.size := by omega
              have BRZ : Blk ((w8.setCell ⟨w.heap.size, 0, none⟩ (.int .i64 n)).setCell ⟨w.heap.size, 1, none⟩ (.slice Ao ops.length co)) w.heap.size 24 #[.int .i64 n, .slice Ao ops.length co] := by simpa using (BRz.set_ 0 (.int .i64 n)).set_ 1 (.slice Ao ops.length co)
              have HBZ := Lib.hid BRZ
              have HTZ : Hid (Below w.heap.size w ((w8.setCell ⟨w.heap.size, 0, none⟩ (.int .i64 n)).setCell ⟨w.heap.size, 1, none⟩ (.slice Ao ops.length co))) := ((below_next HT2.out hT28 rfl).setCell (p := ⟨w.heap.size, 0, none⟩) (Nat.le_refl _) _).setCell (p := ⟨w.heap.size, 1, none⟩) (Nat.le_refl _) _
              have HPO := Lib.hid (((hPO.next hb78).far (p := ⟨w.heap.size, 0, none⟩) (by show w.heap.size < w2.heap.size + 1; omega) (.int .i64 n)).far (p := ⟨w.heap.size, 1, none⟩) (by show w.heap.size < w2.heap.size + 1; omega) (.slice Ao ops.length co))
              clear he BRZ BRz hPO
              go_wp2_with fail
              (try simp only [Exit.inBlock, Exit.then])
              refine bodyPost_ret (v := .tuple #[.agg #[.int .i64 n, .slice Ao ops.length co], .bool true]) (res_row_tmpF rfl _ _ w.heap.size 24 #[.int .i64 n, .slice Ao ops.length co] (0, 0) _ _ (by simp) HBZ.out Tryz.underlying24 rfl (by kernel_rfl) (by simp)) rfl ?_
              rw [HGO.out.1, HGO.out.2]
              exact ⟨_, _, rfl, HPO.out.algO ⟨by omega, by omega⟩, HPO.out.2.2.mono (by omega) (Nat.le_refl _), HTZ.out⟩
            · have hd : (X.toList == s.toList) = false := eqq_str (eqC_no.2 he)
              have HX : Hid (paA s = (0, []) ∧ paB s = false) := pa_no fun x h1 h2 => by
                have e := HUX.out x h1 h2
                rw [e, HXT.out] at h2
                exact he h2.symm
              have BRZ : Blk ((w8.setCell ⟨w.heap.size, 0, none⟩ (.int .i64 0)).setCell ⟨w.heap.size, 1, none⟩ (.slice none 0 0)) w.heap.size 24 #[.int .i64 0, .slice none 0 0] := by simpa using (BRz.set_ 0 (.int .i64 0)).set_ 1 (.slice none 0 0)
              have HBZ := Lib.hid BRZ
              have HTZ : Hid (Below w.heap.size w ((w8.setCell ⟨w.heap.size, 0, none⟩ (.int .i64 0)).setCell ⟨w.heap.size, 1, none⟩ (.slice none 0 0))) := ((below_next HT2.out hT28 rfl).setCell (p := ⟨w.heap.size, 0, none⟩) (Nat.le_refl _) _).setCell (p := ⟨w.heap.size, 1, none⟩) (Nat.le_refl _) _
              clear he BRZ BRz
              go_wp2_with fail
              (try simp only [Exit.inBlock, Exit.then])
              refine bodyPost_ret (v := .tuple #[.agg #[.int .i64 0, .slice none 0 0], .bool false]) (res_row_tmpF rfl _ _ w.heap.size 24 #[.int .i64 0, .slice none 0 0] (0, 0) _ _ (by simp) HBZ.out Tryz.underlying24 rfl (by kernel_rfl) (by simp)) rfl ?_
              exact OwA_no HX.out HTZ.out
end Go.Proofs.YtfnmkbpogbekpaaGreatDoor
namespace Go.Proofs.YtfnmkbpogbekpaaGreatDoor
open Go.RowKit

/-! ## append beyond the room -/
end Go.Proofs.YtfnmkbpogbekpaaGreatDoor
namespace Go.Proofs.YtfnmkbpogbekpaaGreatDoor
open Go.RowKit
set_option linter.unusedVariables false

/-- append of one element of some cells to a row of the call's own. -/
theorem wp_appU {P : Program} (w0 : World) {o : Oper} {a : Act} {K : Act → World → Prop} {Q : Exit → Act → World → Prop} (s x : Operand) (t e : TypeId)
    (ho : o.op = .call { callee := .builtin .append, args := #[s, x], argTypes := #[t, t] }) (z : Value) (size bytes : Nat)
    (ht : P.underlying t = some (.slice e)) (hi : (P.info? e).map (fun i => (i.zero, i.size, i.bytes)) = some (some z, size, bytes)) (hzs : z.cells.size = size) (hbb : bytes ≤ 256) (hs0 : 0 < size)
    (base n c : Nat) (A : Option Addr) (xs : List Value) (hs : a.eval s = .slice A n c) (hown : w0.ownsRow base e size (.slice A n c) n xs) (us : List Value) (hul : us.length = size) (h1 : ∀ u ∈ us, u.oneCell' = true) (hx : a.eval x = .slice (some ⟨w0.heap.size, 0, none⟩) 1 1)
    (hn : n ≤ 1099511627) (hbase : base ≤ w0.heap.size)
    (hK : ∀ A' c' w', w'.ownsRow base e size (.slice A' (n + 1) c') (n + 1) (xs ++ us) → w0.grownBy w' (Value.slice A n c).ownBlock → Below base w0 w' → K (a.put o.dst (.slice A' (n + 1) c')) w') :
    o.wp P a (w0.alloc (.cells us.toArray e)) K Q := by
  obtain ⟨i, hi, hz, hsize, hby⟩ := info_parts hi
  have hbound : (n + 1) * bytes ≤ 140737488355328 := Nat.le_trans (Nat.mul_le_mul_left (n + 1) hbb) (by omega)
  refine wp_append_own (w0.alloc (.cells us.toArray e)) s x t ho base e i z size bytes ht hi hz hsize hby hzs hs0 (.slice A n c) n xs hs (hown.alloc _) ⟨w0.heap.size, 0, none⟩ 1 1 us hx (by rw [hul]; omega) ?_ h1 (by unfold maxLen; omega) hbound (by simp; omega) ?_
  · intro j q hj
    have hcell : (w0.alloc (.cells us.toArray e)).cell? ⟨w0.heap.size, j, none⟩ = us.toArray[j]? := (Blk.new w0 e us.toArray).cell j
    have ea : (⟨w0.heap.size, 0, none⟩ : Addr).add j = ⟨w0.heap.size, j, none⟩ := by
      unfold Addr.add
      split
      · rename_i h0
        rw [h0]
      · simp
    rw [ea, hcell]
    simpa using hj
  · intro v' w' hown' hgrow _
    obtain ⟨A', c', rfl⟩ := own_slice hown'
    have hg : w0.grownBy w' (Value.slice A n c).ownBlock :=
      ⟨hgrow.os, hgrow.tape, hgrow.output, Nat.le_trans (by simp) hgrow.size, fun k hk hne => (hgrow.block k (by simp; omega) hne).trans (Below.heap_alloc w0 _ k hk)⟩
    exact hK A' c' w' hown' hg ((Below.refl base w0).grown hg hbase (fun k hk => (hown.lt k hk).1))
theorem step_appU {P : Program} (w0 : World) {ops : Array Oper} {o : Oper} {a : Act} {K : Act → World → Prop} {Q : Exit → Act → World → Prop} {E : Prop} (hgd : o.guard = none) (s x : Operand) (t e : TypeId)
    (ho : o.op = .call { callee := .builtin .append, args := #[s, x], argTypes := #[t, t] }) (z : Value) (size bytes : Nat)
    (ht : P.underlying t = some (.slice e)) (hi : (P.info? e).map (fun i => (i.zero, i.size, i.bytes)) = some (some z, size, bytes)) (hzs : z.cells.size = size) (hbb : bytes ≤ 256) (hs0 : 0 < size)
    (base n c : Nat) (A : Option Addr) (xs : List Value) (hs : a.eval s = .slice A n c) (hown : w0.ownsRow base e size (.slice A n c) n xs) (us : List Value) (hul : us.length = size) (h1 : ∀ u ∈ us, u.oneCell' = true) (hx : a.eval x = .slice (some ⟨w0.heap.size, 0, none⟩) 1 1)
    (hn : n ≤ 1099511627) (hbase : base ≤ w0.heap.size)
    (hK : ∀ A' c' w', w'.ownsRow base e size (.slice A' (n + 1) c') (n + 1) (xs ++ us) → w0.grownBy w' (Value.slice A n c).ownBlock → Below base w0 w' → K (a.put o.dst (.slice A' (n + 1) c')) w') :
    if Region.wanted o (yielded ops a.tmps) = true then Oper.wp P o a (w0.alloc (.cells us.toArray e)) K Q else E := by
  have hw : Region.wanted o (yielded ops a.tmps) = true := by simp [Region.wanted, hgd]
  rw [if_pos hw]
  exact wp_appU w0 s x t e ho z size bytes ht hi hzs hbb hs0 base n c A xs hs hown us hul h1 hx hn hbase hK

/-- No block of an element lies in a block of type E. -/
def NoE {α : Type} (S : Sh α) (E : TypeId) : Prop := ∀ {w : World} {c : List Value} {x : α} {bk : List Nat}, S.own w c x bk → ∀ {b : Nat}, b ∈ bk → ∃ cur t fr, w.heap[b]? = some (.cells cur t fr) ∧ t ≠ E
/-- A slice of structs of the call's own, its blocks from lo on. -/
def PG {α : Type} (S : Sh α) (m : Nat) (E : TypeId) (lo : Nat) (w : World) (v : Value) (xs : List α) (css : List (List Value)) (bls : List (List Nat)) : Prop :=
  Parts S E w v xs css bls ∧ w.ownsRow lo E m v xs.length css.flatten ∧ Iv lo w.heap.size (obl v ++ bls.flatten)
section
variable {α : Type} {S : Sh α} {m : Nat} {E : TypeId} {lo : Nat} {w : World} {v : Value} {xs : List α} {css : List (List Value)} {bls : List (List Nat)}
theorem PG.nil (S : Sh α) (m : Nat) (E : TypeId) (lo : Nat) (w : World) : PG S m E lo w (.slice none 0 0) [] [] [] :=
  ⟨⟨⟨by simp, .inl ⟨rfl, rfl⟩⟩, rfl, rfl, fun k c x bk h => by simp at h⟩, ⟨by simp, .inl ⟨rfl, rfl⟩⟩, Iv.nil _ _⟩
theorem PG.own (h : PG S m E lo w v xs css bls) : (Sh.rows S E).own w [v] xs (obl v ++ bls.flatten) := ⟨v, css, bls, rfl, h.1, rfl⟩
theorem PG.next {w' : World} (h : PG S m E lo w v xs css bls) (hb : Below w.heap.size w w') : PG S m E lo w' v xs css bls :=
  ⟨h.1.same fun b hb' => hb.block b (h.1.lt b hb'), own_next h.2.1 hb, h.2.2.mono (Nat.le_refl _) hb.size⟩
theorem PG.same {w' : World} (h : PG S m E lo w v xs css bls) (hz : w.heap.size ≤ w'.heap.size) (hs : ∀ b ∈ obl v ++ bls.flatten, w'.heap[b]? = w.heap[b]?) : PG S m E lo w' v xs css bls :=
  ⟨h.1.same hs, own_same h.2.1 fun b hb => hs b (List.mem_append_left _ (mem_obl.2 hb)), h.2.2.mono (Nat.le_refl _) hz⟩
theorem PG.far (h : PG S m E lo w v xs css bls) {p : Addr} (hp : p.block < lo) (u : Value) : PG S m E lo (w.setCell p u) v xs css bls :=
  h.same (by simp) fun b hb => Below.heap_setCell w p u b (fun e => by have := (h.2.2.2 b hb).1; omega)
theorem PG.mono {lo' : Nat} (h : PG S m E lo w v xs css bls) (hl : lo' ≤ lo) : PG S m E lo' w v xs css bls := ⟨h.1, own_mono h.2.1 hl, h.2.2.mono hl (Nat.le_refl _)⟩
theorem PG.rd (h : PG S m E lo w v xs css bls) : ∃ B c, v = .slice B xs.length c ∧ RdN S.m S.rd w B xs.length xs := h.1.rd
theorem PG.fresh (h : PG S m E lo w v xs css bls) {w1 : World} (hz : w.heap.size ≤ w1.heap.size) {v' : Value} {xs' : List α} {css' : List (List Value)} {bls' : List (List Nat)} (hNE : NoE S E) (hown : w1.ownsRow lo E m v' xs'.length css'.flatten) (hP : Parts S E w1 v' xs' css' bls') (hnd : bls'.flatten.Nodup)
    (hlt : ∀ b ∈ bls'.flatten, lo ≤ b) : PG S m E lo w1 v' xs' css' bls' := by
  refine ⟨hP, hown, ?_, fun b hb => ?_⟩
  · rw [List.nodup_append]
    refine ⟨obl_nd _, hnd, fun a ha b hb' e => ?_⟩
    subst e
    obtain ⟨cur, fr, hc⟩ := row_blk hown ha
    obtain ⟨bq, hbq, hab⟩ := List.mem_flatten.1 hb'
    obtain ⟨k, hk⟩ := List.getElem?_of_mem hbq
    have hkl := (List.getElem?_eq_some_iff.1 hk).1
    have e1 := hP.l1
    have e2 := hP.l2
    have ho2 := hP.el k _ _ bq (List.getElem?_eq_getElem (by omega)) (List.getElem?_eq_getElem (by omega)) hk
    obtain ⟨cur2, t2, fr2, hc2, hne⟩ := hNE ho2 hab
    rw [hc] at hc2
    injection hc2 with hc2
    injection hc2 with _ h5
    exact absurd h5.symm hne
  · rcases List.mem_append.1 hb with hb | hb
    · exact hown.lt b (mem_obl.1 hb)
    · exact ⟨hlt b hb, hP.lt b (List.mem_append_right _ hb)⟩
theorem PG.push (h : PG S m E lo w v xs css bls) (hNE : NoE S E) (hm : S.m = m) {w1 : World} (hb : Below w.heap.size w w1) (hlo : lo ≤ w.heap.size) {c : List Value} {x : α} {bk : List Nat} (ho : S.own w1 c x bk) (hiv : Iv w.heap.size w1.heap.size bk) :
    w1.ownsRow lo E m v xs.length css.flatten ∧ ∀ {w2 : World} {v' : Value}, w2.ownsRow lo E m v' (xs.length + 1) (css.flatten ++ c) → w1.grownBy w2 v.ownBlock → PG S m E lo w2 v' (xs ++ [x]) (css ++ [c]) (bls ++ [bk]) := by
  subst hm
  have h1 := h.next hb
  refine ⟨h1.2.1, fun {w2 v'} hown hg => ?_⟩
  have hnd := List.nodup_append.1 h.2.2.1
  have far : ∀ b, b ∈ bls.flatten → w2.heap[b]? = w1.heap[b]? := fun b hb' => hg.block b (h1.2.2.2 b (List.mem_append_right _ hb')).2 fun e => hnd.2.2 b (mem_obl.2 e.symm) b hb' rfl
  have far2 : ∀ b, b ∈ bk → w2.heap[b]? = w1.heap[b]? := fun b hb' => hg.block b (hiv.2 b hb').2 fun e => by
    have h3 := (h.2.2.2 b (List.mem_append_left _ (mem_obl.2 e.symm))).2
    have h4 := (hiv.2 b hb').1
    omega
  have hl1 := h.1.l1
  have hl2 := h.1.l2
  have hP : Parts S E w2 v' (xs ++ [x]) (css ++ [c]) (bls ++ [bk]) := by
    refine ⟨?_, by simp [hl1], by simp [hl2], fun k c' x' bk' e1 e2 e3 => ?_⟩
    · rw [List.length_append, List.flatten_append, List.flatten_singleton]
      exact own_mono hown (Nat.zero_le _)
    · by_cases hk : k < xs.length
      · rw [List.getElem?_append_left (by omega)] at e1 e2 e3
        exact S.osame (h1.1.el k c' x' bk' e1 e2 e3) fun b hb' => far b (List.mem_flatten.2 ⟨_, List.mem_of_getElem? e3, hb'⟩)
      · have hk2 : k = xs.length := by
          have := (List.getElem?_eq_some_iff.1 e2).1
          simp at this
          omega
        subst hk2
        rw [List.getElem?_append_right (by omega)] at e1 e2 e3
        simp [hl1, hl2] at e1 e2 e3
        subst e1
        subst e2
        subst e3
        exact S.osame ho far2
  refine h1.fresh hg.size hNE (by rw [List.length_append, List.flatten_append]; simpa using hown) hP ?_ fun b hb' => ?_
  · rw [List.flatten_append, List.nodup_append]
    refine ⟨hnd.2.1, by simpa using hiv.1, fun a ha b hb' e => ?_⟩
    simp at hb'
    subst e
    have h3 := (h.2.2.2 a (List.mem_append_right _ ha)).2
    have h4 := (hiv.2 a hb').1
    omega
  · rw [List.flatten_append, List.mem_append] at hb'
    rcases hb' with hb' | hb'
    · exact (h.2.2.2 b (List.mem_append_right _ hb')).1
    · have := hiv.2 b (by simpa using hb')
      omega
theorem flat_split {β : Type} {l : List (List β)} {k : Nat} (hk : k < l.length) : l.flatten = (l.take k).flatten ++ (l[k] ++ (l.drop (k + 1)).flatten) := by
  conv => lhs; rw [← List.take_append_drop k l, List.flatten_append, List.drop_eq_getElem_cons hk, List.flatten_cons]
theorem set_split {β : Type} {l : List β} {k : Nat} (hk : k < l.length) (x : β) : l.set k x = l.take k ++ x :: l.drop (k + 1) := by
  rw [List.set_eq_take_append_cons_drop, if_pos hk]
theorem flat_set {l : List (List Value)} {k m : Nat} (hall : ∀ c ∈ l, c.length = m) (hk : k < l.length) {c : List Value} (hc : c.length = m) : setAll l.flatten (k * m) c = (l.set k c).flatten := by
  have hp : (l.take k).flatten.length = k * m := by
    rw [flat_len fun c' hc' => hall c' (List.mem_of_mem_take hc'), List.length_take, Nat.min_eq_left (by omega)]
  rw [flat_split hk, set_split hk, List.flatten_append, List.flatten_cons, ← hp]
  exact setAll_mid _ _ _ _ (by rw [hc, hall _ (List.getElem_mem hk)])
/-- One element replaced by one that a call has laid since. -/
theorem PG.put (h : PG S m E lo w v xs css bls) (hNE : NoE S E) (hm : S.m = m) {w1 : World} (hb : Below w.heap.size w w1) {k g n cap : Nat} (hv : v = .slice (some ⟨g, 0, none⟩) n cap) (hk : k < xs.length) {c : List Value} {x : α} {bk : List Nat} (ho : S.own w1 c x bk) (hiv : Iv w.heap.size w1.heap.size bk) (hlo : lo ≤ w.heap.size) :
    PG S m E lo (setAllW w1 g (k * m) c) v (xs.set k x) (css.set k c) (bls.set k bk) := by
  subst hm
  have h1 := h.next hb
  have hl1 := h.1.l1
  have hl2 := h.1.l2
  have hcl := S.rd_len (S.ord ho)
  have hvn : n = xs.length := by
    obtain ⟨B, c', e⟩ := own_slice h.2.1
    rw [hv] at e
    injection e
  subst hvn
  subst hv
  obtain ⟨hst, hgr⟩ := own_storeAll c (k * S.m) h1.2.1
  rw [flat_set h1.1.all (by omega) hcl] at hst
  have hgl := (h.2.2.2 g (List.mem_append_left _ (mem_obl.2 rfl))).2
  have hgn := nd_head h.2.2.1 (g := g) rfl
  have hnd := (List.nodup_append.1 h.2.2.1).2.1
  have keep : ∀ b, b ≠ g → b < w1.heap.size → (setAllW w1 g (k * S.m) c).heap[b]? = w1.heap[b]? := fun b hne hlt => hgr.block b hlt (by simpa using hne)
  have hP : Parts S E (setAllW w1 g (k * S.m) c) (.slice (some ⟨g, 0, none⟩) xs.length cap) (xs.set k x) (css.set k c) (bls.set k bk) := by
    refine ⟨by rw [List.length_set]; exact own_mono hst (Nat.zero_le _), by simp [hl1], by simp [hl2], fun j c' x' bk' e1 e2 e3 => ?_⟩
    by_cases hj : k = j
    · subst hj
      rw [List.getElem?_set_self (by omega)] at e1 e2 e3
      injection e1 with e1
      injection e2 with e2
      injection e3 with e3
      subst e1
      subst e2
      subst e3
      exact S.osame ho fun b hb' => keep b (fun e => by have := (hiv.2 b hb').1; omega) (hiv.2 b hb').2
    · rw [List.getElem?_set_ne hj] at e1 e2 e3
      refine S.osame (h1.1.el j c' x' bk' e1 e2 e3) fun b hb' => ?_
      have hm : b ∈ bls.flatten := List.mem_flatten.2 ⟨_, List.mem_of_getElem? e3, hb'⟩
      exact keep b (fun e => hgn (e ▸ hm)) (h1.2.2.2 b (List.mem_append_right _ hm)).2
  refine h1.fresh hgr.size hNE (by rw [List.length_set]; exact hst) hP ?_ fun b hb' => ?_
  · rw [set_split (by omega), List.flatten_append, List.flatten_cons]
    rw [flat_split (show k < bls.length by omega)] at hnd
    have n1 := List.nodup_append.1 hnd
    have n2 := List.nodup_append.1 n1.2.1
    have low : ∀ b, b ∈ (bls.take k).flatten ∨ b ∈ (bls.drop (k + 1)).flatten → b < w.heap.size := fun b hb' => by
      have : b ∈ bls.flatten := by
        rw [flat_split (show k < bls.length by omega), List.mem_append, List.mem_append]
        rcases hb' with hb' | hb'
        · exact .inl hb'
        · exact .inr (.inr hb')
      exact (h.2.2.2 b (List.mem_append_right _ this)).2
    rw [List.nodup_append, List.nodup_append]
    refine ⟨n1.1, ⟨hiv.1, n2.2.1, fun a ha b hb' e => ?_⟩, fun a ha b hb' e => ?_⟩
    · subst e
      have := (hiv.2 a ha).1
      have := low a (.inr hb')
      omega
    · subst e
      rcases List.mem_append.1 hb' with hb' | hb'
      · have := (hiv.2 a hb').1
        have := low a (.inl ha)
        omega
      · exact n1.2.2 a ha a (List.mem_append_right _ hb') rfl
  · rw [set_split (by omega), List.flatten_append, List.flatten_cons, List.mem_append, List.mem_append] at hb'
    have up : ∀ b, b ∈ bls.flatten → lo ≤ b := fun b hb' => (h.2.2.2 b (List.mem_append_right _ hb')).1
    rcases hb' with hb' | hb' | hb'
    · exact up b (by rw [flat_split (show k < bls.length by omega)]; exact List.mem_append_left _ hb')
    · have := (hiv.2 b hb').1; omega
    · exact up b (by rw [flat_split (show k < bls.length by omega)]; exact List.mem_append_right _ (List.mem_append_right _ hb'))
/-- The first k. -/
theorem own_takeN {base size : Nat} {e : TypeId} {A : Option Addr} {n c k : Nat} {ys : List Value} (h : w.ownsRow base e size (.slice A n c) n ys) (hk : k ≤ n) : w.ownsRow base e size (.slice A k c) k (ys.take (k * size)) := by
  obtain ⟨h1, h2⟩ := h
  have hle := Nat.mul_le_mul_right size hk
  refine ⟨by rw [List.length_take, h1]; omega, ?_⟩
  rcases h2 with ⟨h2, h3⟩ | ⟨g, cap, cur, hv, hb, hg, hnc, hcm, hcs, ht⟩
  · left
    injection h2 with e1 e2 e3
    subst e1
    subst e3
    obtain rfl : k = 0 := by omega
    exact ⟨rfl, rfl⟩
  · right
    injection hv with e1 e2 e3
    subst e1
    subst e3
    refine ⟨g, _, cur, rfl, hb, hg, by omega, hcm, hcs, ?_⟩
    rw [← ht, List.take_take]
    congr 1
    omega
theorem flat_take {l : List (List Value)} {k m : Nat} (hall : ∀ c ∈ l, c.length = m) (hk : k ≤ l.length) : l.flatten.take (k * m) = (l.take k).flatten := by
  have hp : (l.take k).flatten.length = k * m := by
    rw [flat_len fun c' hc' => hall c' (List.mem_of_mem_take hc'), List.length_take, Nat.min_eq_left (by omega)]
  conv => lhs; rw [← List.take_append_drop k l, List.flatten_append]
  rw [← hp, List.take_left]
theorem PG.take {A : Option Addr} {n c k : Nat} (h : PG S m E lo w (.slice A n c) xs css bls) (hm : S.m = m) (hk : k ≤ xs.length) : PG S m E lo w (.slice A k c) (xs.take k) (css.take k) (bls.take k) := by
  subst hm
  have hl1 := h.1.l1
  have hl2 := h.1.l2
  have hvn : n = xs.length := by
    obtain ⟨B, c', e⟩ := own_slice h.2.1
    injection e
  subst hvn
  have hr := own_takeN h.2.1 hk
  rw [flat_take h.1.all (by omega)] at hr
  have hsub : ∀ b, b ∈ (bls.take k).flatten → b ∈ bls.flatten := fun b hb => by
    obtain ⟨bq, hbq, hab⟩ := List.mem_flatten.1 hb
    exact List.mem_flatten.2 ⟨bq, List.mem_of_mem_take hbq, hab⟩
  have hlt : (xs.take k).length = k := by rw [List.length_take]; omega
  have hob : ∀ b, b ∈ obl (Value.slice A k c) → b ∈ obl (Value.slice A xs.length c) := fun b hb => by
    rw [mem_obl] at hb ⊢
    cases A with
    | none => simp [Value.ownBlock] at hb
    | some a => exact hb
  refine ⟨⟨by rw [hlt]; exact own_mono hr (Nat.zero_le _), by simp [hl1], by simp [hl2], fun j c' x' bk' e1 e2 e3 => ?_⟩, by rw [hlt]; exact hr, ?_, fun b hb => ?_⟩
  · rw [List.getElem?_take] at e1 e2 e3
    split at e1
    · rename_i hj
      rw [if_pos hj] at e2 e3
      exact h.1.el j c' x' bk' e1 e2 e3
    · cases e1
  · have hnd := h.2.2.1
    rw [← List.take_append_drop k bls, List.flatten_append, List.nodup_append] at hnd
    rw [List.nodup_append]
    exact ⟨obl_nd _, (List.nodup_append.1 hnd.2.1).1, fun a ha b hb e => hnd.2.2 a (hob a ha) b (List.mem_append_left _ hb) e⟩
  · rcases List.mem_append.1 hb with hb | hb
    · exact h.2.2.2 b (List.mem_append_left _ (hob b hb))
    · exact h.2.2.2 b (List.mem_append_right _ (hsub b hb))
end
/-- A slice of structs whose room may be told smaller than it is. -/
def Sh.rowsW {α : Type} (A : Sh α) (E : TypeId) : Sh (List α) where
  m := 1
  rd := (Sh.rows A E).rd
  own := fun w cs xs bl => ∃ B n c d css bls, cs = [.slice B n d] ∧ n ≤ d ∧ Parts A E w (.slice B n c) xs css bls ∧ bl = obl (.slice B n c) ++ bls.flatten
  cnt := (Sh.rows A E).cnt
  rd_len := (Sh.rows A E).rd_len
  stab := (Sh.rows A E).stab
  ord := fun {w} {cs} {xs} {bl} ⟨B, n, c, d, css, bls, e, _, h, _⟩ => by
    obtain ⟨B', c', hv, hr⟩ := h.rd
    injection hv with e1 e2 e3
    subst e1
    subst e2
    exact ⟨B, xs.length, d, e, hr⟩
  olt := fun {w} {cs} {xs} {bl} ⟨B, n, c, d, css, bls, _, _, h, e⟩ b hb => by rw [e] at hb; exact h.lt b hb
  osame := fun {w} {w'} {cs} {xs} {bl} ⟨B, n, c, d, css, bls, e, hd, h, e'⟩ hs => ⟨B, n, c, d, css, bls, e, hd, h.same fun b hb => hs b (by rw [e']; exact hb), e'⟩
end Go.Proofs.YtfnmkbpogbekpaaGreatDoor
namespace Go.Proofs.YtfnmkbpogbekpaaGreatDoor
open Go.RowKit
set_option linter.unusedVariables false
set_option linter.unusedSimpArgs false

end Go.Proofs.YtfnmkbpogbekpaaGreatDoor
namespace Go.Proofs.YtfnmkbpogbekpaaGreatDoor
open Go.RowKit
set_option linter.unusedVariables false

/-- The image's index as far as k digits from the right. -/
def ImI (n ar i : Nat) (f : List Int) (k cur at_ st : Nat) : Prop := idx n ((digs n (ar - k) cur).map (nmAt f)) * st + at_ = toI n ar f i ∧ st = n ^ k
theorem ImI.start (n ar i : Nat) (f : List Int) : ImI n ar i f 0 i 0 1 := ⟨by show idx n ((digs n (ar - 0) i).map (nmAt f)) * 1 + 0 = toI n ar f i; rw [Nat.mul_one, Nat.add_zero]; rfl, (Nat.pow_zero n).symm⟩
theorem ImI.next {n ar i : Nat} {f : List Int} {k cur at_ st : Nat} (h : ImI n ar i f k cur at_ st) (hk : k < ar) : ImI n ar i f (k + 1) (cur / n) (at_ + nmAt f (cur % n) * st) (st * n) := by
  obtain ⟨h1, h2⟩ := h
  refine ⟨?_, by rw [h2, Nat.pow_succ]⟩
  rw [← h1, show ar - k = (ar - (k + 1)) + 1 by omega, digs, List.map_append, List.map_cons, List.map_nil, idx_snoc, Nat.add_mul]
  have : idx n ((digs n (ar - (k + 1)) (cur / n)).map (nmAt f)) * (st * n) = idx n ((digs n (ar - (k + 1)) (cur / n)).map (nmAt f)) * n * st := by rw [Nat.mul_assoc, Nat.mul_comm st n]
  omega
theorem ImI.done {n ar i : Nat} {f : List Int} {k cur at_ st : Nat} (h : ImI n ar i f k cur at_ st) (hk : ¬ k < ar) : at_ = toI n ar f i := by
  have h1 := h.1
  rw [show ar - k = 0 by omega] at h1
  simpa [digs, idx] using h1
/-- A map into n elements. -/
def MpL (n : Nat) (f : List Int) : Prop := f.length = n ∧ ∀ v ∈ f, 0 ≤ v ∧ v ≤ (n : Int) - 1
theorem MpL.at {n : Nat} {f : List Int} (h : MpL n f) {x : Nat} (hx : x < n) : f[x]? = some (nmAt f x : Int) ∧ nmAt f x < n := by
  have hl : x < f.length := by rw [h.1]; exact hx
  have h2 := h.2 _ (List.getElem_mem hl)
  have h3 : f[x]? = some f[x] := List.getElem?_eq_getElem hl
  rw [nmAt_get h3, h3]
  exact ⟨by congr 1; omega, by omega⟩
theorem MpL.im {n : Nat} {f : List Int} (h : MpL n f) (hn : 0 < n) (k i : Nat) : toI n k f i < n ^ k := by
  refine idx_lt k _ (by rw [List.length_map, digs_len]) fun d hd => ?_
  obtain ⟨x, hx, rfl⟩ := List.mem_map.1 hd
  exact (h.at (digs_lt hn hx)).2
set_option maxRecDepth 20000 in
set_option maxHeartbeats 4000000 in
theorem imageIndex_any (cs : List Value) (x : AlgebraM) (A : Option Addr) (n m c i ar : Nat) (f : List Int) (w : World) (h : shAlgebra.rd w cs x) (hn : x.1 = (n : Int)) (hn0 : 0 < n) (hn8 : n ≤ 8) (hr : RdL RI w A m f) (hf : MpL n f) (ha : ar ≤ 3) (hi : i < n ^ ar) :
    Calls Tryz.prog 201 #[.int .i64 i, .int .i64 ar, .agg cs.toArray, .agg cs.toArray, .slice A m c] w (Bl w (.int .i64 ((toI n ar f i : Nat) : Int))) := by
  obtain ⟨B, k, d, rfl, -, qo⟩ := rdAlgebra h
  rw [hn]
  obtain ⟨w0, hw0, T0, hsz0, BP, BQ⟩ := boxes2 w #[.int .i64 (n : Int), .slice B k d] #[.int .i64 (n : Int), .slice B k d] 24 24
  have HW0 := Lib.hid hw0
  have cP0 := BP.cell 0
  have cQ0 := BQ.cell 0
  simp at cP0 cQ0
  have r0 := hr.next stab_RI T0
  have HF := Lib.hid hf
  have hmn : m = n := by rw [← hr.len]; exact hf.1
  subst hmn
  have hi4 : i ≤ 4096 := by have := pow_bd (n := m) (k := ar) hn8 (by omega); omega
  have hres : toI m ar f i ≤ 4096 := by have := hf.im hn0 ar i; have := pow_bd (n := m) (k := ar) hn8 (by omega); omega
  have HRES := Lib.hid hres
  clear hw0 hsz0 qo h hr hf hn hi hres
  go_enter Tryz.func201, Tryz.ntmps201
  go_upto_region 1 with fail
  rw [← HW0.out]
  go_wp2_with fail
  go_loop [0, 11, 12, 13] (fun ci ca cst ck => ∃ q cur at_ st : Nat, q ≤ ar ∧ ck = .int .i64 q ∧ ci = .int .i64 cur ∧ ca = .int .i64 at_ ∧ cst = .int .i64 st ∧ cur ≤ 4096 ∧ Hid (ImI m ar i f q cur at_ st)) (fun _ _ _ ck => ar - (intOf ck).toNat)
  case atStart => exact ⟨0, i, 0, 1, Nat.zero_le _, rfl, rfl, rfl, rfl, hi4, ImI.start _ _ _ _⟩
  case round =>
    obtain ⟨q, cur, at_, st, hq, rfl, rfl, rfl, rfl, hcur, HI⟩ := hrel
    by_cases hlt : q < ar
    · have hq0 : (0 : Int) ≤ (q : Int) := by omega
      have hq1 : (q : Int) < (ar : Int) := by omega
      have hr := Nat.mod_lt cur hn0
      obtain ⟨X, HX⟩ : ∃ X, Hid (cur % m = X) := ⟨_, rfl⟩
      rw [HX.out] at hr
      have hfX := HF.out.at hr
      obtain ⟨fX, HFX⟩ : ∃ z, Hid (nmAt f X = z) := ⟨_, rfl⟩
      rw [HFX.out] at hfX
      obtain ⟨b, o, u, v, rfl, hc, ⟨rfl, -, -⟩, -, hxv⟩ := r0.at hr
      rw [hfX.1] at hxv
      injection hxv with hxv
      subst hxv
      have hst : st ≤ 4096 := by rw [HI.out.2]; exact pow_bd hn8 (by omega)
      have hIN := HI.out.next hlt
      rw [HX.out, HFX.out] at hIN
      have hle2 : at_ + fX * st ≤ 4096 := by
        have h1 := hIN.1
        have := HRES.out
        omega
      have hM : fX * st ≤ 4096 := by omega
      have hM2 : st * m ≤ 4096 * 8 := Nat.mul_le_mul hst hn8
      have HIN := Lib.hid hIN
      have e1 : (fX : Int) * (st : Int) = ((fX * st : Nat) : Int) := (Int.natCast_mul _ _).symm
      obtain ⟨P1, HP1⟩ : ∃ z, Hid (fX * st = z) := ⟨_, rfl⟩
      rw [HP1.out] at e1 HIN hM hle2
      have e2 : (st : Int) * (m : Int) = ((st * m : Nat) : Int) := (Int.natCast_mul _ _).symm
      obtain ⟨P2, HP2⟩ : ∃ z, Hid (st * m = z) := ⟨_, rfl⟩
      rw [HP2.out] at e2 HIN hM2
      have HQ : Hid (wrap64 ((cur : Int) / (m : Int)) = ((cur / m : Nat) : Int)) := by
        show _ = _
        have e : (cur : Int) / (m : Int) = ((cur / m : Nat) : Int) := by simp
        rw [e]
        exact w64 (by have := Nat.div_le_self cur m; omega)
      have hcd : cur / m ≤ 4096 := Nat.le_trans (Nat.div_le_self _ _) hcur
      have f5 : (cur : Int) % (m : Int) = (X : Int) := by rw [← HX.out]; simp
      have f6 : cur % m = X := HX.out
      have hX0 : (0 : Int) ≤ (X : Int) := by omega
      have hX1 : (X : Int) < (m : Int) := by omega
      have hnz : ¬ (m : Int) = 0 := by omega
      clear hfX hIN
      go_wp2_with fail
      go_round
      case rel => exact ⟨q + 1, cur / m, at_ + P1, P2, by omega, by go_num, by rw [HQ.out], by go_num, by go_num, hcd, HIN⟩
      case measure => simp [intOf]; try omega
    · have hq1 : ¬ (q : Int) < (ar : Int) := by omega
      have HD := Lib.hid (HI.out.done hlt)
      go_wp2_with fail
      go_ret
      exact ⟨ret_int (by rw [HD.out]), T0⟩
end Go.Proofs.YtfnmkbpogbekpaaGreatDoor
namespace Go.Proofs.YtfnmkbpogbekpaaGreatDoor
open Go.RowKit
set_option linter.unusedVariables false

def mpB (n : Nat) (f : List Int) : Bool := decide (f.length = n) && allIn 0 ((n : Int) - 1) f
theorem mpB_iff {n : Nat} {f : List Int} : mpB n f = true ↔ MpL n f := by unfold mpB MpL; rw [Bool.and_eq_true, decide_eq_true_iff, allIn_m]
set_option maxHeartbeats 2000000 in
theorem isMap_any (cs : List Value) (x : AlgebraM) (A : Option Addr) (m c : Nat) (f : List Int) (w : World) (h : shAlgebra.rd w cs x) (hx : AlgP x) (hr : RdL RI w A m f) :
    Calls Tryz.prog 181 #[.agg cs.toArray, .agg cs.toArray, .slice A m c] w (Bl w (.bool (mpB x.1.toNat f))) := by
  obtain ⟨B, k, d, rfl, -, qo⟩ := rdAlgebra h
  obtain ⟨n, hN⟩ : ∃ n : Nat, x.1 = (n : Int) := ⟨x.1.toNat, by have := hx.1; omega⟩
  have HNT : Hid (x.1.toNat = n) := by show _ = _; omega
  have hn8 : n ≤ 8 := by have := hx.2.1; omega
  rw [HNT.out, hN]
  obtain ⟨w0, hw0, T0, hsz0, BP, BQ⟩ := boxes2 w #[.int .i64 (n : Int), .slice B k d] #[.int .i64 (n : Int), .slice B k d] 24 24
  have HW0 := Lib.hid hw0
  have cP0 := BP.cell 0
  have cQ0 := BQ.cell 0
  simp at cP0 cQ0
  have r0 := hr.next stab_RI T0
  have HL := Lib.hid hr.len
  have hmle := hr.le
  have HI := Lib.hid (inSize_any A m c f (n : Int) w0 r0)
  obtain ⟨b1, HB1⟩ : ∃ z, Hid (allIn 0 ((n : Int) - 1) f = z) := ⟨_, rfl⟩
  rw [HB1.out] at HI
  have HR : Hid (mpB n f = (decide (m = n) && b1)) := by show _ = _; unfold mpB; rw [HB1.out, HL.out]
  clear hw0 hsz0 qo h hx hr hN
  by_cases hmn : m = n
  · subst hmn
    have hd : ((m : Int) == (m : Int)) = true := by simp
    go_enter Tryz.func181, Tryz.ntmps181
    go_upto_region 1 with fail
    rw [← HW0.out]
    go_wp2_with fail
    refine HI.out.mono ?_
    rintro e w1 ⟨rfl, rfl⟩
    go_wp2_with fail
    go_ret
    exact ⟨ret_bool (by rw [HR.out]; simp), T0⟩
  · have hd : ((m : Int) == (n : Int)) = false := by rw [beq_eq_false_iff_ne]; omega
    go_enter Tryz.func181, Tryz.ntmps181
    go_upto_region 1 with fail
    rw [← HW0.out]
    go_wp2_with fail
    go_ret
    exact ⟨ret_bool (by rw [HR.out, decide_eq_false hmn]; rfl), T0⟩
def FtE (w : World) (P : Prop) (e : Ending) (w' : World) : Prop := ∃ kk ii : Int, e = .returned (.tuple #[.int .i64 kk, .int .i64 ii]) ∧ (kk < 0 ↔ P) ∧ Below w.heap.size w w'
def HomTo (n : Nat) (ops : List OpM) (f : List Int) (k q : Nat) : Prop := (∀ j, j < k → ∀ o, ops[j]? = some o → ∀ i, i < o.2.length → nmAt f (nmAt o.2 i) = nmAt o.2 (toI n o.1.toNat f i)) ∧ (∀ o, ops[k]? = some o → ∀ i, i < q → i < o.2.length → nmAt f (nmAt o.2 i) = nmAt o.2 (toI n o.1.toNat f i))
theorem HomTo.start (n : Nat) (ops : List OpM) (f : List Int) : HomTo n ops f 0 0 := ⟨fun j h => absurd h (by omega), fun o _ i h => absurd h (by omega)⟩
theorem HomTo.entry {n : Nat} {ops : List OpM} {f : List Int} {k q : Nat} {o : OpM} (h : HomTo n ops f k q) (ho : ops[k]? = some o) (he : nmAt f (nmAt o.2 q) = nmAt o.2 (toI n o.1.toNat f q)) : HomTo n ops f k (q + 1) := ⟨h.1, fun o' ho' i hi hil => by
  rw [ho] at ho'
  injection ho' with ho'
  subst ho'
  by_cases e : i = q
  · subst e; exact he
  · exact h.2 _ ho i (by omega) hil⟩
theorem HomTo.op {n : Nat} {ops : List OpM} {f : List Int} {k q : Nat} {o : OpM} (h : HomTo n ops f k q) (ho : ops[k]? = some o) (hq : ¬ q < o.2.length) : HomTo n ops f (k + 1) 0 := ⟨fun j hj o' ho' i hi => by
  by_cases e : j = k
  · subst e; exact h.2 o' ho' i (by rw [ho] at ho'; injection ho' with ho'; subst ho'; omega) hi
  · exact h.1 j (by omega) o' ho' i hi, fun o' _ i h => absurd h (by omega)⟩
theorem HomTo.done {n : Nat} {ops : List OpM} {f : List Int} {k q : Nat} (h : HomTo n ops f k q) (hk : ¬ k < ops.length) : HomP n ops f := fun o ho i hi => by
  obtain ⟨j, hj⟩ := List.getElem?_of_mem ho
  have := (List.getElem?_eq_some_iff.1 hj).1
  exact h.1 j (by omega) o hj i hi
set_option maxRecDepth 20000 in
set_option maxHeartbeats 8000000 in
theorem faultOf_any (cs : List Value) (x : AlgebraM) (A : Option Addr) (n c : Nat) (f : List Int) (w : World) (h : shAlgebra.rd w cs x) (hx : AlgP x) (hn : x.1 = (n : Int)) (hr : RdL RI w A n f) (hf : MpL n f) :
    Calls Tryz.prog 182 #[.agg cs.toArray, .agg cs.toArray, .slice A n c] w (FtE w (HomP n x.2 f)) := by
  have hrd := h
  obtain ⟨a, ops⟩ := x
  obtain ⟨hx1, hx2, hx3, hx4⟩ := hx
  simp only at hx1 hx2 hx3 hx4 hn
  subst hn
  rw [Int.toNat_natCast] at hx4
  have hn0 : 0 < n := by omega
  have hn8 : n ≤ 8 := by omega
  obtain ⟨B, m, d, rfl, -, qo⟩ := rdAlgebra h
  have HML := Lib.hid qo.len
  have HOPS := Lib.hid hx4
  have hm4 : m ≤ 4 := by rw [← qo.len]; exact hx3
  obtain ⟨w0, hw0, T0, hsz0, BP, BQ⟩ := boxes2 w #[.int .i64 (n : Int), .slice B m d] #[.int .i64 (n : Int), .slice B m d] 24 24
  have HW0 := Lib.hid hw0
  have HRD : Hid (∀ wz, Below w0.heap.size w0 wz → shAlgebra.rd wz [.int .i64 (n : Int), .slice B m d] ((n : Int), ops)) := fun wz hz => shAlgebra.stab (shAlgebra.stab hrd T0.block) hz.block
  replace qo := qo.next T0
  have r0 := hr.next stab_RI T0
  have cP0 := BP.cell 0
  have cP1 := BP.cell 1
  have cQ0 := BQ.cell 0
  have cQ1 := BQ.cell 1
  simp at cP0 cP1 cQ0 cQ1
  have HF := Lib.hid hf
  clear hw0 hsz0 hx3 hx4 h hr hrd hf
  go_enter Tryz.func182, Tryz.ntmps182
  go_upto_region 1 with fail
  rw [← HW0.out]
  go_wp2_with fail
  go_loopw [15] (fun i wr => ∃ k : Nat, k ≤ m ∧ i = .int .i64 k ∧ Hid (HomTo n ops f k 0) ∧ Below w0.heap.size w0 wr) (fun i _ => m - (intOf i).toNat)
  case atStart => exact ⟨0, Nat.zero_le _, rfl, HomTo.start _ _ _, Below.refl _ _⟩
  case round =>
    obtain ⟨k, hk, rfl, HI, hTr⟩ := hrel
    by_cases hlt : k < m
    · have hk0 : (0 : Int) ≤ (k : Int) := by omega
      have hk1 : (k : Int) < (m : Int) := by omega
      obtain ⟨b, o, vs, op, rfl, -, hc, hrr, -, hxo⟩ := qo.at hlt
      obtain ⟨B', m', d', rfl, -, qt⟩ := rdOp hrr
      have hoP := HOPS.out op (List.mem_of_getElem? hxo)
      obtain ⟨ar, tb, rfl, har⟩ := op_nat hoP
      have HXO := Lib.hid hxo
      have HTL : Hid (m' = n ^ ar) := by show _ = _; rw [← qt.len]; have := hoP.2.2.1; simpa using this
      have HTB : Hid (tb.length = m') := qt.len
      have HTV := Lib.hid hoP.2.2.2
      have hm512 : m' ≤ 4096 := by rw [HTL.out]; exact pow_bd hn8 (by omega)
      have cc0 : w0.cell? ⟨b, o + k * 2, none⟩ = some (.int .i64 (ar : Int)) := hc 0 _ rfl
      have cc1 : w0.cell? ⟨b, o + k * 2 + 1, none⟩ = some (.slice B' m' d') := hc 1 _ rfl
      have kc0 := keepc hTr cc0
      have kc1 := keepc hTr cc1
      obtain ⟨wo, HWO⟩ : ∃ wo : World, wo = wr := ⟨_, rfl⟩
      subst HWO
      obtain ⟨w1, hw1, T1, hsz1, BX⟩ := boxes1 wo #[.int .i64 (ar : Int), .slice B' m' d'] 122
      have HW1 := Lib.hid hw1
      have T01 := below_next hTr T1 rfl
      have cX0 := BX.cell 0
      have cX1 := BX.cell 1
      simp at cX0 cX1
      clear hc hrr hxo hoP hw1 hsz1
      go_wp2_with fail
      rw [← HW1.out]
      clear kc0 kc1
      go_wp2_with fail
      go_loopw [23] (fun i wi => ∃ q : Nat, q ≤ m' ∧ i = .int .i64 q ∧ Hid (HomTo n ops f k q) ∧ Below w1.heap.size w1 wi) (fun i _ => m' - (intOf i).toNat)
      case atStart => exact ⟨0, Nat.zero_le _, rfl, HI, Below.refl _ _⟩
      case round =>
        clear HI
        obtain ⟨q, hq, rfl, HI, hTi⟩ := hrel
        have TT := below_next T01 hTi rfl
        by_cases hlq : q < m'
        · have hq0 : (0 : Int) ≤ (q : Int) := by omega
          have hq1 : (q : Int) < (m' : Int) := by omega
          obtain ⟨b3, o3, u3, v, rfl, hc3, ⟨rfl, -, -⟩, -, hxv⟩ := (qt.next stab_RI TT).at hlq
          have hvi := HTV.out v (List.mem_of_getElem? hxv)
          obtain ⟨y, rfl⟩ := Int.eq_ofNat_of_zero_le hvi.1
          have hyn : y < n := by omega
          have HY : Hid (nmAt tb q = y) := by show _ = _; rw [nmAt_get hxv]; simp
          have hfy := HF.out.at hyn
          obtain ⟨fy, HFY⟩ : ∃ z, Hid (nmAt f y = z) := ⟨_, rfl⟩
          rw [HFY.out] at hfy
          obtain ⟨b4, o4, u4, v4, rfl, hc4, ⟨rfl, -, -⟩, -, hx4⟩ := (r0.next stab_RI TT).at hyn
          rw [hfy.1] at hx4
          injection hx4 with hx4
          subst hx4
          have hIMl : toI n ar f q < m' := by rw [HTL.out]; exact HF.out.im hn0 _ _
          obtain ⟨IM, HIM⟩ : ∃ z, Hid (toI n ar f q = z) := ⟨_, rfl⟩
          rw [HIM.out] at hIMl
          obtain ⟨u5, v5, hc5, ⟨rfl, -, -⟩, -, hx5⟩ := (qt.next stab_RI TT).at' hIMl
          have hvi5 := HTV.out v5 (List.mem_of_getElem? hx5)
          obtain ⟨z, rfl⟩ := Int.eq_ofNat_of_zero_le hvi5.1
          have HZ : Hid (nmAt tb (toI n ar f q) = z) := by show _ = _; rw [HIM.out, nmAt_get hx5]; simp
          have HC : Hid (∀ wz, Below wr.heap.size wr wz → Calls Tryz.prog 201 #[.int .i64 (q : Int), .int .i64 (ar : Int), .agg #[.int .i64 (n : Int), .slice (some ⟨b, o, none⟩) m d], .agg #[.int .i64 (n : Int), .slice (some ⟨b, o, none⟩) m d], .slice (some ⟨b4, o4, none⟩) n c] wz (Bl wz (.int .i64 (IM : Int)))) := fun wz hz => by
            have := imageIndex_any _ ((n : Int), ops) (some ⟨b4, o4, none⟩) n n c q ar f wz (HRD.out wz (below_next TT hz rfl)) rfl hn0 hn8 ((r0.next stab_RI TT).next stab_RI hz) HF.out har (by rw [← HTL.out]; exact hlq)
            rw [HIM.out] at this
            exact this
          have hy0 : (0 : Int) ≤ (y : Int) := by omega
          have hy1 : (y : Int) < (n : Int) := by omega
          have hM0 : (0 : Int) ≤ (IM : Int) := by omega
          have hM1 : (IM : Int) < (m' : Int) := by omega
          obtain ⟨bb, HBB⟩ : ∃ z', Hid (((fy : Int) != (z : Int)) = z') := ⟨_, rfl⟩
          have jP0 := keepc TT cP0
          have jP1 := keepc TT cP1
          have jQ0 := keepc TT cQ0
          have jQ1 := keepc TT cQ1
          have jX0 := keepc hTi cX0
          have jc1 := keepc TT cc1
          have Tk : Below wr.heap.size wr wr := Below.refl _ _
          clear hxv hvi hx5 hvi5 hfy
          go_upto_region 7 with fail
          go_cut [47] from 28 to 50 (fun u47 wx => u47 = .bool bb ∧ Below wr.heap.size wr wx)
          case first =>
            go_region_held3 (fun w' => w'.cell? ⟨w.heap.size, 0, none⟩ = some (.int .i64 (n : Int)) ∧ w'.cell? ⟨w.heap.size, 1, none⟩ = some (.slice (some ⟨b, o, none⟩) m d) ∧ w'.cell? ⟨w.heap.size + 1, 0, none⟩ = some (.int .i64 (n : Int)) ∧ w'.cell? ⟨w.heap.size + 1, 1, none⟩ = some (.slice (some ⟨b, o, none⟩) m d) ∧ w'.cell? ⟨wo.heap.size, 0, none⟩ = some (.int .i64 (ar : Int)) ∧ w'.cell? ⟨b, o + k * 2 + 1, none⟩ = some (.slice (some ⟨b3, o3, none⟩) m' d') ∧ w'.cell? ⟨b4, o4 + y, none⟩ = some (.int .i64 (fy : Int)) ∧ w'.cell? ⟨b3, o3 + IM, none⟩ = some (.int .i64 (z : Int))) (first | go_keep | exact ⟨keepc Tk jP0, keepc Tk jP1, keepc Tk jQ0, keepc Tk jQ1, keepc Tk jX0, keepc Tk jc1, keepc Tk hc4, keepc Tk hc5⟩) (first
              | (go_at_call 201; (with_reducible refine (HC.out _ ?_).mono ?_); (first | exact Tk | exact Below.drew Tk); rintro e wn ⟨rfl, hbn⟩; replace Tk := below_next (by first | exact Tk | exact Below.drew Tk) hbn rfl))
            all_goals
              go_wp2_with fail
              go_meet
              exact ⟨by rw [← HBB.out], by first | exact Tk | exact Below.drew Tk⟩
          case rest =>
            obtain ⟨rfl, hTc⟩ := hcut
            have TN := below_next hTi hTc rfl
            rcases bb with _ | _
            · have HI2 : Hid (HomTo n ops f k (q + 1)) := HI.out.entry HXO.out (by
                simp only [Int.toNat_natCast]
                rw [HY.out, HFY.out, HZ.out]
                have := HBB.out
                have h2 : (fy : Int) = (z : Int) := by simpa using this
                omega)
              go_wp2_with fail
              go_roundw
              case rel => exact ⟨q + 1, by omega, by go_num, HI2, TN⟩
              case measure => simp [intOf]; try omega
            · have HNO : Hid (¬ HomP n ops f) := fun hh => by
                have h1 := hh _ (List.mem_of_getElem? HXO.out) q (by have := HTB.out; simp only; omega)
                simp only [Int.toNat_natCast] at h1
                rw [HY.out, HFY.out, HZ.out] at h1
                have := HBB.out
                rw [h1] at this
                simp at this
              go_wp2_with fail
              go_ret2
              exact ⟨(k : Int), (q : Int), rfl, ⟨fun h => absurd h (by omega), fun h => absurd h HNO.out⟩, below_next T0 (below_next T01 TN rfl) rfl⟩
        · have hq1 : ¬ (q : Int) < (m' : Int) := by omega
          have HI2 : Hid (HomTo n ops f (k + 1) 0) := HI.out.op HXO.out (by have := HTB.out; simp only; omega)
          go_wp2_with fail
          go_roundw
          case rel => exact ⟨k + 1, by omega, by go_num, HI2, TT⟩
          case measure => simp [intOf]; try omega
    · have hk1 : ¬ (k : Int) < (m : Int) := by omega
      have HD : Hid (HomP n ops f) := HI.out.done (by rw [HML.out]; exact hlt)
      go_wp2_with fail
      go_ret2
      exact ⟨-1, 0, rfl, ⟨fun _ => HD.out, fun _ => by decide⟩, below_next T0 hTr rfl⟩
set_option maxHeartbeats 4000000 in
theorem isHom_any (cs : List Value) (x : AlgebraM) (A : Option Addr) (m c : Nat) (f : List Int) (w : World) (h : shAlgebra.rd w cs x) (hx : AlgP x) (hr : RdL RI w A m f) :
    Calls Tryz.prog 133 #[.agg cs.toArray, .agg cs.toArray, .slice A m c] w (Bl w (.bool (homB x.1.toNat x.2 f))) := by
  have hrd := h
  obtain ⟨B, k, d, rfl, -, qo⟩ := rdAlgebra h
  obtain ⟨n, hN⟩ : ∃ n : Nat, x.1 = (n : Int) := ⟨x.1.toNat, by have := hx.1; omega⟩
  have HNN := Lib.hid hN
  have HNT : Hid (x.1.toNat = n) := by show _ = _; omega
  obtain ⟨w0, hw0, T0, hsz0, BP, BQ⟩ := boxes2 w #[.int .i64 x.1, .slice B k d] #[.int .i64 x.1, .slice B k d] 24 24
  have HW0 := Lib.hid hw0
  have HRD : Hid (∀ wz, Below w0.heap.size w0 wz → shAlgebra.rd wz [.int .i64 x.1, .slice B k d] x) := fun wz hz => shAlgebra.stab (shAlgebra.stab hrd T0.block) hz.block
  have cP0 := BP.cell 0
  have cP1 := BP.cell 1
  have cQ0 := BQ.cell 0
  have cQ1 := BQ.cell 1
  simp at cP0 cP1 cQ0 cQ1
  have HX := Lib.hid hx
  have HLN := Lib.hid hr.len
  have r0 := hr.next stab_RI T0
  have HM := Lib.hid (isMap_any _ x A m c f w0 (HRD.out _ (Below.refl _ _)) hx r0)
  rw [HNT.out] at HM
  rw [HNT.out]
  obtain ⟨b1, HB1⟩ : ∃ z, Hid (mpB n f = z) := ⟨_, rfl⟩
  rw [HB1.out] at HM
  have HR : Hid (homB n x.2 f = (b1 && tt (HomP n x.2 f))) := by show _ = _; unfold homB; rw [← HB1.out]; rfl
  clear hw0 hsz0 qo h hrd hx hr hN
  go_enter Tryz.func133, Tryz.ntmps133
  go_upto_region 1 with fail
  rw [← HW0.out]
  go_wp2_with fail
  refine HM.out.mono ?_
  rintro e w1 ⟨rfl, hb1⟩
  replace cP0 := keepc hb1 cP0
  replace cP1 := keepc hb1 cP1
  replace cQ0 := keepc hb1 cQ0
  replace cQ1 := keepc hb1 cQ1
  rcases b1 with _ | _
  · go_wp2_with fail
    go_ret
    exact ⟨ret_bool (by rw [HR.out]; rfl), below_next T0 hb1 rfl⟩
  have hf := mpB_iff.1 HB1.out
  have hmn : m = n := by rw [← HLN.out]; exact hf.1
  subst hmn
  have HC := Lib.hid (faultOf_any _ x A m c f w1 (HRD.out _ hb1) HX.out HNN.out (r0.next stab_RI hb1) hf)
  clear hf
  go_wp2_with fail
  refine HC.out.mono ?_
  rintro e w2 ⟨kk, ii, rfl, hk, hb2⟩
  have HK := Lib.hid hk
  clear hk
  have T2 := below_next T0 (below_next hb1 hb2 rfl) rfl
  by_cases h0 : kk < 0
  · go_wp2_with fail
    go_ret
    exact ⟨ret_bool (by rw [HR.out, ← tt_true (HK.out.1 h0)]; rfl), T2⟩
  · go_wp2_with fail
    go_ret
    exact ⟨ret_bool (by rw [HR.out, ← tt_false (fun hh => by have := HK.out.2 hh; omega)]; simp; try omega), T2⟩
end Go.Proofs.YtfnmkbpogbekpaaGreatDoor
namespace Go.Proofs.YtfnmkbpogbekpaaGreatDoor
open Go.RowKit
set_option linter.unusedVariables false

theorem getD_at {p : List Int} {i : Nat} {v : Int} (h : p[i]? = some v) : p.getD i 0 = v := by rw [List.getD_eq_getElem?_getD, h]; rfl
/-- The first k places are as a partition's. -/
theorem par_step {p : List Int} {k : Nat} {x z : Int} {y : Nat} (h : ∀ i, i < k → ParI p i) (hx : p[k]? = some x) (h0 : 0 ≤ x) (hk : x ≤ (k : Int)) (hy : x = (y : Int)) (hz : p[y]? = some z) : ParI p k ↔ z = x := by
  have hn : nmAt p k = y := by rw [nmAt_get hx, hy]; simp
  have hzn : 0 ≤ z := by
    by_cases e : y = k
    · subst e; rw [hx] at hz; injection hz with hz; omega
    · have := (h y (by omega)).1
      rwa [getD_at hz] at this
  unfold ParI
  rw [getD_at hx, hn, nmAt_get hz]
  constructor
  · rintro ⟨-, -, h3⟩; omega
  · rintro rfl; exact ⟨h0, by omega, by omega⟩
set_option maxHeartbeats 2000000 in
theorem isPartition_any (A : Option Addr) (n m c : Nat) (p : List Int) (w : World) (h : RdL RI w A m p) (hn : n ≤ 1000) :
    Calls Tryz.prog 176 #[.int .i64 n, .slice A m c] w fun e w' => e = .returned (.bool (tt (ParP n p))) ∧ w = w' := by
  have hle := h.le
  have HL := Lib.hid h.len
  by_cases hnm : m = n
  rotate_left
  · have hne : ((m : Int) != (n : Int)) = true := by rw [bne_iff_ne]; omega
    go_enter Tryz.func176, Tryz.ntmps176
    go_wp2
    go_ret
    exact ⟨ret_bool (tt_false fun hh => hnm (by rw [← HL.out]; exact hh.1)), rfl⟩
  subst hnm
  have hne : ((m : Int) != (m : Int)) = false := by simp
  go_enter Tryz.func176, Tryz.ntmps176
  go_wp2
  go_loop [13] (fun i => ∃ k : Nat, k ≤ m ∧ i = .int .i64 k ∧ Hid (∀ i, i < k → ParI p i)) (fun i => m - (intOf i).toNat)
  case atStart => exact ⟨0, Nat.zero_le _, rfl, fun i hi => absurd hi (by omega)⟩
  case round =>
    obtain ⟨k, hk, rfl, HI⟩ := hrel
    by_cases hlt : k < m
    · have hk0 : (0 : Int) ≤ (k : Int) := by omega
      have hk1 : (k : Int) < (m : Int) := by omega
      obtain ⟨b, o, u, x, rfl, hc, ⟨rfl, -, -⟩, -, hx⟩ := h.at hlt
      have HX := Lib.hid hx
      clear hx
      by_cases hx0 : x < 0
      · go_wp2
        go_ret
        exact ⟨ret_bool (tt_false fun hh => by have := (hh.2 k hlt).1; rw [getD_at HX.out] at this; omega), rfl⟩
      · by_cases hxk : (k : Int) < x
        · go_wp2
          go_ret
          exact ⟨ret_bool (tt_false fun hh => by have := (hh.2 k hlt).2.1; rw [nmAt_get HX.out] at this; omega), rfl⟩
        · obtain ⟨y, rfl⟩ := Int.eq_ofNat_of_zero_le (show 0 ≤ x by omega)
          obtain ⟨u2, z, hc2, ⟨rfl, -, -⟩, -, hz⟩ := h.at' (k := y) (by omega)
          have HP := Lib.hid (par_step HI.out HX.out (by omega) (by omega) rfl hz)
          have hy0 : (0 : Int) ≤ (y : Int) := by omega
          have hy1 : (y : Int) < (m : Int) := by omega
          clear hz
          rcases hb : (z != (y : Int)) with _ | _
          · have HP2 : Hid (∀ i, i < k + 1 → ParI p i) := fun i hi => by
              by_cases e : i = k
              · subst e; exact HP.out.2 (by simpa using hb)
              · exact HI.out i (by omega)
            go_wp2
            go_round
            case rel => exact ⟨k + 1, by omega, by go_num, HP2⟩
            case measure => simp [intOf]; try omega
          · have HB := Lib.hid hb
            go_wp2
            go_ret
            exact ⟨ret_bool (tt_false fun hh => by
              have h1 := HP.out.1 (hh.2 k hlt)
              have h2 := HB.out
              rw [h1] at h2
              simp at h2), rfl⟩
    · have hk1 : ¬ (k : Int) < (m : Int) := by omega
      have HF : Hid (ParP m p) := ⟨HL.out, fun i hi => HI.out i (by omega)⟩
      go_wp2
      go_ret
      exact ⟨ret_bool (tt_true HF.out), rfl⟩
/-- The lists with two blocks put into one as far as place k. -/
def mixU (p : List Int) (x y k : Nat) : List Int := (p.take k).map (uniV (nmAt p x) (nmAt p y)) ++ p.drop k
theorem mixU_all {p : List Int} {x y k : Nat} (h : p.length ≤ k) : mixU p x y k = uniL p x y := by unfold mixU uniL; rw [List.take_of_length_le h, List.drop_eq_nil_of_le h, List.append_nil]
theorem mixU_len (p : List Int) (x y k : Nat) : (mixU p x y k).length = p.length := by unfold mixU; simp; omega
theorem mixU_get {p : List Int} {x y k : Nat} {v : Int} (h : p[k]? = some v) : (mixU p x y k)[k]? = some v := by
  have hk := (List.getElem?_eq_some_iff.1 h).1
  unfold mixU
  rw [List.getElem?_append_right (by simp; omega)]
  simp [show min k p.length = k by omega, h]
theorem mixU_next {p : List Int} {x y k : Nat} {v : Int} (h : p[k]? = some v) : (mixU p x y k).set k (uniV (nmAt p x) (nmAt p y) v) = mixU p x y (k + 1) := by
  have hk := (List.getElem?_eq_some_iff.1 h).1
  unfold mixU
  have e : p.drop k = v :: p.drop (k + 1) := by rw [List.drop_eq_getElem_cons hk, (List.getElem?_eq_some_iff.1 h).2]
  rw [List.set_append_right _ _ (by simp; omega), e, List.take_add_one, h]
  simp [show min k p.length = k by omega]
theorem mixU_same {p : List Int} {x y k : Nat} {v : Int} (h : p[k]? = some v) (hv : uniV (nmAt p x) (nmAt p y) v = v) : mixU p x y (k + 1) = mixU p x y k := by
  rw [← mixU_next h, hv]
  apply List.ext_getElem?
  intro i
  rw [List.getElem?_set]
  by_cases e : k = i
  · subst e
    have hk := (List.getElem?_eq_some_iff.1 h).1
    rw [if_pos rfl, if_pos (by rw [mixU_len]; exact hk), mixU_get h]
  · rw [if_neg e]
end Go.Proofs.YtfnmkbpogbekpaaGreatDoor
namespace Go.Proofs.YtfnmkbpogbekpaaGreatDoor
open Go.RowKit
set_option linter.unusedVariables false

theorem par_cell {w : World} {base g n c : Nat} {p : List Int} (h : w.ownsRow base 3 1 (.slice (some ⟨g, 0, none⟩) n c) n (ints p)) {x : Nat} {v : Int} (hx : p[x]? = some v) (hxn : x < n) : w.cell? ⟨g, x, none⟩ = some (.int .i64 v) := by
  rw [h.cellAt x (by omega)]
  unfold ints
  rw [List.getElem?_map, hx]
  rfl
set_option maxRecDepth 20000 in
set_option maxHeartbeats 4000000 in
theorem unite_any (g n c base : Nat) (p : List Int) (x y : Nat) (w : World) (hown : w.ownsRow base 3 1 (.slice (some ⟨g, 0, none⟩) n c) n (ints p)) (hp : ParP n p) (hx : x < n) (hy : y < n) (hn : n ≤ 1000) :
    Calls Tryz.prog 193 #[.slice (some ⟨g, 0, none⟩) n c, .int .i64 x, .int .i64 y] w fun e w' => e = .returned (.bool (!(decide (nmAt p x = nmAt p y)))) ∧ w'.ownsRow base 3 1 (.slice (some ⟨g, 0, none⟩) n c) n (ints (uniL p x y)) ∧ w.grownBy w' (some g) := by
  obtain ⟨a, HA⟩ : ∃ a, Hid (nmAt p x = a) := ⟨_, rfl⟩
  obtain ⟨b, HB⟩ : ∃ b, Hid (nmAt p y = b) := ⟨_, rfl⟩
  have hpx := hp.at hx
  have hpy := hp.at hy
  rw [HA.out] at hpx
  rw [HB.out] at hpy
  have hcx := par_cell hown hpx.1 hx
  have hcy := par_cell hown hpy.1 hy
  have HP := Lib.hid hp
  have hx0 : (0 : Int) ≤ (x : Int) := by omega
  have hx1 : (x : Int) < (n : Int) := by omega
  have hy0 : (0 : Int) ≤ (y : Int) := by omega
  have hy1 : (y : Int) < (n : Int) := by omega
  have han : a ≤ 1000 := by omega
  have hbn : b ≤ 1000 := by omega
  clear hpx hpy hp
  by_cases hab : a = b
  · have hd : ((a : Int) == (b : Int)) = true := by rw [beq_iff_eq]; omega
    have HU : Hid (uniL p x y = p) := uni_same (by rw [HA.out, HB.out]; exact hab)
    have HD : Hid (decide (nmAt p x = nmAt p y) = true) := by show _ = _; rw [HA.out, HB.out]; exact decide_eq_true hab
    go_enter Tryz.func193, Tryz.ntmps193
    go_wp2_with fail
    go_quiet (fail)
    go_wp2_with fail
    go_ret
    exact ⟨ret_bool (by rw [HD.out]; rfl), by rw [HU.out]; exact hown, by first | exact gk_refl _ _ | exact gk_drewN (gk_refl _ _) _⟩
  have hd : ((a : Int) == (b : Int)) = false := by rw [beq_eq_false_iff_ne]; omega
  have HD : Hid (decide (nmAt p x = nmAt p y) = false) := by show _ = _; rw [HA.out, HB.out]; exact decide_eq_false hab
  obtain ⟨lo, HLO⟩ : ∃ l, Hid (min a b = l) := ⟨_, rfl⟩
  obtain ⟨hi, HHI⟩ : ∃ l, Hid (max a b = l) := ⟨_, rfl⟩
  have HF : Hid (∀ v : Int, uniV (nmAt p x) (nmAt p y) v = if v = (hi : Int) then (lo : Int) else v) := fun v => by
    rw [HA.out, HB.out, ← HLO.out, ← HHI.out]
    unfold uniV
    by_cases h : a ≤ b
    · rw [if_pos (show (a : Int) ≤ (b : Int) by omega), if_pos (show (a : Int) ≤ (b : Int) by omega), Nat.min_eq_left h, Nat.max_eq_right h]
    · rw [if_neg (show ¬ (a : Int) ≤ (b : Int) by omega), if_neg (show ¬ (a : Int) ≤ (b : Int) by omega), Nat.min_eq_right (by omega), Nat.max_eq_left (by omega)]
  go_enter Tryz.func193, Tryz.ntmps193
  go_wp2_with fail
  go_quiet (fail)
  go_upto_if 21 with fail
  go_cut [1, 2, 21] from 22 to 23 (fun u1 u2 _ wx => u1 = .int .i64 (lo : Int) ∧ u2 = .int .i64 (hi : Int) ∧ w.grownBy wx (some g) ∧ wx.ownsRow base 3 1 (.slice (some ⟨g, 0, none⟩) n c) n (ints p))
  case first =>
    by_cases hlt : b < a
    · have e1 : lo = b := by have := HLO.out; omega
      have e2 : hi = a := by have := HHI.out; omega
      subst e1
      subst e2
      have hlt1 : (lo : Int) < (hi : Int) := by omega
      go_wp2_with fail
      go_meet
      exact ⟨rfl, rfl, by first | exact gk_refl _ _ | exact gk_drewN (gk_refl _ _) _, hown⟩
    · have e1 : lo = a := by have := HLO.out; omega
      have e2 : hi = b := by have := HHI.out; omega
      subst e1
      subst e2
      have hlt1 : ¬ (hi : Int) < (lo : Int) := by omega
      go_wp2_with fail
      go_meet
      exact ⟨rfl, rfl, by first | exact gk_refl _ _ | exact gk_drewN (gk_refl _ _) _, hown⟩
  case rest =>
    obtain ⟨rfl, rfl, hG1, hown1⟩ := hcut
    obtain ⟨w1, HWC⟩ : ∃ wq : World, wq = wc := ⟨_, rfl⟩
    subst HWC
    clear hcx hcy hown
    go_wp2_with fail
    go_loopw [26] (fun i wr => ∃ k : Nat, k ≤ n ∧ i = .int .i64 k ∧ wr.ownsRow base 3 1 (.slice (some ⟨g, 0, none⟩) n c) n (ints (mixU p x y k)) ∧ w.grownBy wr (some g)) (fun i _ => n - (intOf i).toNat)
    case atStart => exact ⟨0, Nat.zero_le _, rfl, hown1, hG1⟩
    case round =>
      clear hown1 hG1
      obtain ⟨k, hk, rfl, hown, hG⟩ := hrel
      by_cases hlt : k < n
      · have hk0 : (0 : Int) ≤ (k : Int) := by omega
        have hk1 : (k : Int) < (n : Int) := by omega
        have hpk := (HP.out.at hlt).1
        obtain ⟨v, HV⟩ : ∃ v, Hid (nmAt p k = v) := ⟨_, rfl⟩
        rw [HV.out] at hpk
        have HPK := Lib.hid hpk
        have hck := par_cell hown (mixU_get hpk) hlt
        have hfz := hown.frozenAt k
        have hst := (hown.stored k (.int .i64 (lo : Int))).1
        rw [ints_set] at hst
        have HST := Lib.hid hst
        clear hpk hst
        by_cases hvh : v = hi
        · subst hvh
          have HN : Hid ((mixU p x y k).set k (lo : Int) = mixU p x y (k + 1)) := by
            show _ = _
            rw [← mixU_next HPK.out, HF.out, if_pos rfl]
          have hd2 : ((v : Int) == (v : Int)) = true := by simp
          go_wp2_with fail
          go_roundw
          case rel => exact ⟨k + 1, by omega, by go_num, by rw [← HN.out]; exact HST.out, gk_set hG rfl _⟩
          case measure => simp [intOf]; try omega
        · have hd2 : ((v : Int) == (hi : Int)) = false := by rw [beq_eq_false_iff_ne]; omega
          have HN : Hid (mixU p x y (k + 1) = mixU p x y k) := mixU_same HPK.out (by rw [HF.out, if_neg (by omega)])
          go_wp2_with fail
          go_roundw
          case rel => exact ⟨k + 1, by omega, by go_num, by rw [HN.out]; exact hown, hG⟩
          case measure => simp [intOf]; try omega
      · have hk1 : ¬ (k : Int) < (n : Int) := by omega
        have HM : Hid (mixU p x y k = uniL p x y) := mixU_all (by rw [HP.out.1]; omega)
        go_wp2_with fail
        go_ret
        exact ⟨ret_bool (by rw [HD.out]; rfl), by rw [← HM.out]; exact hown, hG⟩
end Go.Proofs.YtfnmkbpogbekpaaGreatDoor
namespace Go.Proofs.YtfnmkbpogbekpaaGreatDoor
open Go.RowKit
set_option linter.unusedVariables false

/-- Held together so far: of the operations below j, of the entries below q of the next one, of the digits below d of the next entry. -/
def PhD (n : Nat) (ops : List OpM) (p : List Int) (j q d : Nat) : Prop := (∀ j', j' < j → ∀ o, ops[j']? = some o → ∀ i, i < o.2.length → ∀ d', d' < o.1.toNat → PrE n p o i d') ∧ (∀ o, ops[j]? = some o → (∀ i, i < q → i < o.2.length → ∀ d', d' < o.1.toNat → PrE n p o i d') ∧ (∀ d', d' < d → d' < o.1.toNat → PrE n p o q d'))
theorem PhD.start (n : Nat) (ops : List OpM) (p : List Int) : True ↔ PhD n ops p 0 0 0 := ⟨fun _ => ⟨fun j' h => absurd h (by omega), fun o _ => ⟨fun i h => absurd h (by omega), fun d' h => absurd h (by omega)⟩⟩, fun _ => trivial⟩
theorem PhD.pair {n : Nat} {ops : List OpM} {p : List Int} {j q d : Nat} {o : OpM} (ho : ops[j]? = some o) (hd : d < o.1.toNat) : (PhD n ops p j q d ∧ PrE n p o q d) ↔ PhD n ops p j q (d + 1) := by
  constructor
  · rintro ⟨⟨h1, h2⟩, he⟩
    refine ⟨h1, fun o' ho' => ?_⟩
    rw [ho] at ho'
    injection ho' with ho'
    subst ho'
    refine ⟨(h2 _ ho).1, fun d' h' ha => ?_⟩
    by_cases e : d' = d
    · subst e; exact he
    · exact (h2 _ ho).2 d' (by omega) ha
  · rintro ⟨h1, h2⟩
    exact ⟨⟨h1, fun o' ho' => ⟨(h2 o' ho').1, fun d' h' ha => (h2 o' ho').2 d' (by omega) ha⟩⟩, (h2 o ho).2 d (by omega) hd⟩
theorem PhD.entry {n : Nat} {ops : List OpM} {p : List Int} {j q d : Nat} {o : OpM} (ho : ops[j]? = some o) (hd : ¬ d < o.1.toNat) (hq : q < o.2.length) : PhD n ops p j q d ↔ PhD n ops p j (q + 1) 0 := by
  constructor
  · rintro ⟨h1, h2⟩
    refine ⟨h1, fun o' ho' => ⟨fun i hi hil d' hd' => ?_, fun d' h => absurd h (by omega)⟩⟩
    rw [ho] at ho'
    injection ho' with ho'
    subst ho'
    by_cases e : i = q
    · subst e; exact (h2 _ ho).2 d' (by omega) hd'
    · exact (h2 _ ho).1 i (by omega) hil d' hd'
  · rintro ⟨h1, h2⟩
    refine ⟨h1, fun o' ho' => ⟨fun i hi hil => (h2 o' ho').1 i (by omega) hil, fun d' h' ha => ?_⟩⟩
    rw [ho] at ho'
    injection ho' with ho'
    subst ho'
    exact (h2 _ ho).1 q (by omega) hq d' ha
theorem PhD.op {n : Nat} {ops : List OpM} {p : List Int} {j q : Nat} {o : OpM} (ho : ops[j]? = some o) (hq : ¬ q < o.2.length) : PhD n ops p j q 0 ↔ PhD n ops p (j + 1) 0 0 := by
  constructor
  · rintro ⟨h1, h2⟩
    refine ⟨fun j' hj' o' ho' i hi d' hd' => ?_, fun o' _ => ⟨fun i h => absurd h (by omega), fun d' h => absurd h (by omega)⟩⟩
    by_cases e : j' = j
    · subst e; exact (h2 o' ho').1 i (by rw [ho] at ho'; injection ho' with ho'; subst ho'; omega) hi d' hd'
    · exact h1 j' (by omega) o' ho' i hi d' hd'
  · rintro ⟨h1, h2⟩
    exact ⟨fun j' hj' => h1 j' (by omega), fun o' ho' => ⟨fun i _ hil d' hd' => h1 j (by omega) o' ho' i hil d' hd', fun d' h => absurd h (by omega)⟩⟩
theorem PhD.done {n : Nat} {ops : List OpM} {p : List Int} {j : Nat} (hj : ¬ j < ops.length) : PhD n ops p j 0 0 ↔ CompP n ops p := by
  constructor
  · rintro ⟨h1, -⟩ o ho d hd i hi
    obtain ⟨j', hj'⟩ := List.getElem?_of_mem ho
    have := (List.getElem?_eq_some_iff.1 hj').1
    exact h1 j' (by omega) o hj' i hi d hd
  · intro h
    refine ⟨fun j' _ o ho i hi d hd => h o (List.mem_of_getElem? ho) d hd i hi, fun o ho => ?_⟩
    have := (List.getElem?_eq_some_iff.1 ho).1
    omega
end Go.Proofs.YtfnmkbpogbekpaaGreatDoor
namespace Go.Proofs.YtfnmkbpogbekpaaGreatDoor
open Go.RowKit
set_option linter.unusedVariables false

end Go.Proofs.YtfnmkbpogbekpaaGreatDoor
namespace Go.Proofs.YtfnmkbpogbekpaaGreatDoor
open Go.RowKit
set_option linter.unusedVariables false
set_option linter.unusedSimpArgs false
end Go.Proofs.YtfnmkbpogbekpaaGreatDoor
namespace Go.Proofs.YtfnmkbpogbekpaaGreatDoor
open Go.RowKit
set_option linter.unusedVariables false
set_option linter.unusedSimpArgs false

theorem info_fact4 : (Tryz.prog.info? 57).map (fun i => (i.zero, i.size, i.bytes)) = some (some (.agg #[.int .i64 0, .slice none 0 0, .slice none 0 0, .slice none 0 0]), 4, 80) := by kernel_rfl
theorem shFact_blk {w : World} {c : List Value} {x : FactM} {bk : List Nat} (h : shFact.own w c x bk) {b : Nat} (hb : b ∈ bk) : ∃ cur fr, w.heap[b]? = some (.cells cur 3 fr) := by
  obtain ⟨cK, cX, bK, bX, rfl, rfl, ⟨_, rfl, -, rfl⟩, ⟨c0, c1, b0, b1, rfl, rfl, ⟨c2, c3, b2, b3, rfl, rfl, ⟨v2, rfl, o2, -, rfl⟩, ⟨v3, rfl, o3, -, rfl⟩⟩, ⟨v1, rfl, o1, -, rfl⟩⟩⟩ := h
  rw [List.nil_append, List.mem_append, List.mem_append] at hb
  rcases hb with (hb | hb) | hb
  · exact row_blk o2 hb
  · exact row_blk o3 hb
  · exact row_blk o1 hb
theorem noE_fact : NoE shFact 57 := fun h b hb => by
  obtain ⟨cur, fr, hc⟩ := shFact_blk h hb
  exact ⟨cur, _, fr, hc, by decide⟩
theorem PO.noB {lo : Nat} {w : World} {v : Value} {xs : List OpM} {css : List (List Value)} {bls : List (List Nat)} (h : PO lo w v xs css bls) {g : Nat} {t : TypeId} {cs : Array Value} (hB : Blk w g t cs) (h1 : 122 ≠ t) (h2 : 3 ≠ t) : g ∉ obl v ++ bls.flatten := fun hb => by
  rcases List.mem_append.1 hb with hb | hb
  · obtain ⟨cur, fr, hc⟩ := row_blk h.2.1 hb
    rw [show w.heap[g]? = _ from hB] at hc
    injection hc with hc
    injection hc with _ hc
    exact h1 hc.symm
  · obtain ⟨bk, hbk, hb⟩ := List.mem_flatten.1 hb
    obtain ⟨k, hk⟩ := List.getElem?_of_mem hbk
    have hkl := (List.getElem?_eq_some_iff.1 hk).1
    have e1 := h.1.l1
    have e2 := h.1.l2
    obtain ⟨cur, fr, hc⟩ := shOp_blk (h.1.el k _ _ bk (List.getElem?_eq_getElem (by omega)) (List.getElem?_eq_getElem (by omega)) hk) hb
    rw [show w.heap[g]? = _ from hB] at hc
    injection hc with hc
    injection hc with _ hc
    exact h2 hc.symm
theorem PO.setB {lo : Nat} {w : World} {v : Value} {xs : List OpM} {css : List (List Value)} {bls : List (List Nat)} (h : PO lo w v xs css bls) {g k : Nat} {t : TypeId} {cs : Array Value} (hB : Blk w g t cs) (h1 : 122 ≠ t) (h2 : 3 ≠ t) (u : Value) : PO lo (w.setCell ⟨g, k, none⟩ u) v xs css bls :=
  h.same (by simp) fun b hb => Below.heap_setCell w ⟨g, k, none⟩ u b fun e => h.noB hB h1 h2 (by rw [← show b = g from e]; exact hb)
theorem PGf.noB {lo : Nat} {w : World} {v : Value} {xs : List FactM} {css : List (List Value)} {bls : List (List Nat)} (h : PG shFact 4 57 lo w v xs css bls) {g : Nat} {t : TypeId} {cs : Array Value} (hB : Blk w g t cs) (h1 : 57 ≠ t) (h2 : 3 ≠ t) : g ∉ obl v ++ bls.flatten := fun hb => by
  rcases List.mem_append.1 hb with hb | hb
  · obtain ⟨cur, fr, hc⟩ := row_blk h.2.1 hb
    rw [show w.heap[g]? = _ from hB] at hc
    injection hc with hc
    injection hc with _ hc
    exact h1 hc.symm
  · obtain ⟨bk, hbk, hb⟩ := List.mem_flatten.1 hb
    obtain ⟨k, hk⟩ := List.getElem?_of_mem hbk
    have hkl := (List.getElem?_eq_some_iff.1 hk).1
    have e1 := h.1.l1
    have e2 := h.1.l2
    obtain ⟨cur, fr, hc⟩ := shFact_blk (h.1.el k _ _ bk (List.getElem?_eq_getElem (by omega)) (List.getElem?_eq_getElem (by omega)) hk) hb
    rw [show w.heap[g]? = _ from hB] at hc
    injection hc with hc
    injection hc with _ hc
    exact h2 hc.symm
theorem PGf.setB {lo : Nat} {w : World} {v : Value} {xs : List FactM} {css : List (List Value)} {bls : List (List Nat)} (h : PG shFact 4 57 lo w v xs css bls) {g k : Nat} {t : TypeId} {cs : Array Value} (hB : Blk w g t cs) (h1 : 57 ≠ t) (h2 : 3 ≠ t) (u : Value) : PG shFact 4 57 lo (w.setCell ⟨g, k, none⟩ u) v xs css bls :=
  h.same (by simp) fun b hb => Below.heap_setCell w ⟨g, k, none⟩ u b fun e => PGf.noB h hB h1 h2 (by rw [← show b = g from e]; exact hb)
theorem iv_apart {lo hi : Nat} {a b : List Nat} (ha : Iv lo hi a) (hb : Iv lo hi b) (hn : ∀ x ∈ a, x ∉ b) : Iv lo hi (a ++ b) := ⟨List.nodup_append.2 ⟨ha.1, hb.1, fun x hx y hy e => hn x hx (e ▸ hy)⟩, fun x hx => by
  rcases List.mem_append.1 hx with h | h
  · exact ha.2 x h
  · exact hb.2 x h⟩
/-- A copied fact as a fact of the call's own. -/
theorem cf_own {w w' : World} {f : FactM} {e : Ending} (h : CfE w f e w') (hk : InR f.1) (h1 : ∀ v ∈ f.2.1.1, InR v) (h2 : ∀ v ∈ f.2.1.2, InR v) (h3 : ∀ v ∈ f.2.2, InR v) :
    ∃ A1 c1 A2 c2 A3 c3 bk, e = .returned (.agg #[.int .i64 f.1, .slice A1 f.2.1.1.length c1, .slice A2 f.2.1.2.length c2, .slice A3 f.2.2.length c3]) ∧ shFact.own w' [.int .i64 f.1, .slice A1 f.2.1.1.length c1, .slice A2 f.2.1.2.length c2, .slice A3 f.2.2.length c3] f bk ∧ Iv w.heap.size w'.heap.size bk ∧ Below w.heap.size w w' := by
  obtain ⟨A1, c1, A2, c2, A3, c3, rfl, o1, o2, o3, p12, p13, p23, hb⟩ := h
  have ap : ∀ {u v : Value}, Apart u v → ∀ x ∈ obl u, x ∉ obl v := fun hp x hx hy => hp x (mem_obl.1 hx) (mem_obl.1 hy)
  refine ⟨A1, c1, A2, c2, A3, c3, [] ++ ((obl _ ++ obl _) ++ obl _), rfl, ⟨[_], [_, _, _], [], _, rfl, rfl, ⟨_, rfl, ⟨rfl, hk.1, hk.2⟩, rfl⟩, ⟨[_, _], [_], _, _, rfl, rfl, ⟨[_], [_], _, _, rfl, rfl, ⟨_, rfl, own_mono o1 (Nat.zero_le _), h1, rfl⟩, ⟨_, rfl, own_mono o2 (Nat.zero_le _), h2, rfl⟩⟩, ⟨_, rfl, own_mono o3 (Nat.zero_le _), h3, rfl⟩⟩⟩, ?_, hb⟩
  rw [List.nil_append]
  refine iv_apart (iv_apart (obl_iv o1) (obl_iv o2) (ap p12)) (obl_iv o3) fun x hx => ?_
  rcases List.mem_append.1 hx with hx | hx
  · exact ap p13 x hx
  · exact ap p23 x hx
/-- A lab of the call's own, its parts by name: the facts' blocks lie behind those of the algebra. -/
def LabP (lo : Nat) (w : World) (x : LabM) (v u : Value) : Prop := ∃ css bls dss cls mid, PO lo w v x.2.1.2 css bls ∧ Iv lo mid (obl v ++ bls.flatten) ∧ lo ≤ mid ∧ PG shFact 4 57 mid w u x.2.2.1 dss cls
def LabE (w : World) (x : LabM) (e : Ending) (w' : World) : Prop := ∃ v u, e = .returned (.agg #[.bool x.1, .int .i64 x.2.1.1, v, u, .int .i64 x.2.2.2]) ∧ LabP w.heap.size w' x v u ∧ Below w.heap.size w w'
theorem LabP.next {lo : Nat} {w w' : World} {x : LabM} {v u : Value} (h : LabP lo w x v u) (hb : Below w.heap.size w w') : LabP lo w' x v u := by
  obtain ⟨css, bls, dss, cls, mid, h1, h2, h3, h4⟩ := h
  exact ⟨css, bls, dss, cls, mid, h1.next hb, h2, h3, h4.next hb⟩
theorem LabP.setB {lo : Nat} {w : World} {x : LabM} {v u : Value} (h : LabP lo w x v u) {g k : Nat} {cs : Array Value} (hB : Blk w g 27 cs) (q : Value) : LabP lo (w.setCell ⟨g, k, none⟩ q) x v u := by
  obtain ⟨css, bls, dss, cls, mid, h1, h2, h3, h4⟩ := h
  exact ⟨css, bls, dss, cls, mid, h1.setB hB (by decide) (by decide) q, h2, h3, PGf.setB h4 hB (by decide) (by decide) q⟩
theorem LabP.mono {lo lo' : Nat} {w : World} {x : LabM} {v u : Value} (h : LabP lo w x v u) (hl : lo' ≤ lo) : LabP lo' w x v u := by
  obtain ⟨css, bls, dss, cls, mid, h1, h2, h3, h4⟩ := h
  exact ⟨css, bls, dss, cls, mid, h1.mono hl, h2.mono hl (Nat.le_refl _), by omega, h4⟩
theorem LabP.own {lo : Nat} {w : World} {x : LabM} {v u : Value} (h : LabP lo w x v u) (h1 : InR x.2.1.1) (h2 : InR x.2.2.2) : ∃ bl, shLab.own w [.bool x.1, .int .i64 x.2.1.1, v, u, .int .i64 x.2.2.2] x bl ∧ Iv lo w.heap.size bl := by
  obtain ⟨css, bls, dss, cls, mid, p1, p2, p3, p4⟩ := h
  refine ⟨[] ++ ((obl v ++ bls.flatten) ++ ((obl u ++ cls.flatten) ++ [])), ⟨[_], [_, _, _, _], [], _, rfl, rfl, ⟨_, rfl, rfl, rfl⟩, ⟨[_, _], [_, _], _, _, rfl, rfl, p1.algO h1, ⟨[_], [_], _, [], rfl, rfl, p4.own, ⟨_, rfl, ⟨rfl, h2.1, h2.2⟩, rfl⟩⟩⟩⟩, ?_⟩
  rw [List.nil_append, List.append_nil]
  rcases Nat.le_total mid w.heap.size with h | h
  · exact Iv.app p2 p4.2.2 p3 (Nat.le_refl _) h
  · have hc : obl u ++ cls.flatten = [] := List.eq_nil_iff_forall_not_mem.2 fun b hb => by
      have := p4.2.2.2 b hb
      omega
    rw [hc, List.append_nil]
    exact p1.2.2
set_option maxRecDepth 20000 in
set_option maxHeartbeats 16000000 in
theorem cloneLab_any (cs : List Value) (x : LabM) (w : World) (h : shLab.rd w cs x) (hn : shLab.cnt x ≤ 1048576) : Calls Tryz.prog 43 #[.agg cs.toArray] w (LabE w x) := by
  obtain ⟨Bo, k, d, F, n, c, rfl, qZ, qO, qF, qR⟩ := rdLab h
  have hcn : 0 + (shAlgebra.cnt x.2.1 + ((x.2.2.1.length + cntS shFact.cnt x.2.2.1) + 0)) ≤ 1048576 := hn
  obtain rfl : x.2.2.1.length = n := qF.len
  have hle : x.2.2.1.length ≤ 1048576 := by omega
  obtain ⟨w0, hw0, T0, hsz0, BP, BQ⟩ := boxes2 w #[.bool x.1, .int .i64 x.2.1.1, .slice Bo k d, .slice F x.2.2.1.length c, .int .i64 x.2.2.2] #[.bool false, .int .i64 0, .slice none 0 0, .slice none 0 0, .int .i64 0] 27 27
  have HW0 := Lib.hid hw0
  have HCL : Hid (∀ wz, Below w0.heap.size w0 wz → Calls Tryz.prog 78 #[.agg #[.int .i64 x.2.1.1, .slice Bo k d]] wz (AlgE wz x.2.1)) := fun wz hz => cloneAlgebra_any [.int .i64 x.2.1.1, .slice Bo k d] x.2.1 wz (mkAlgebra qZ ((qO.next T0).next hz)) (by omega)
  have cP0 := BP.cell 0
  have cP1 := BP.cell 1
  have cP2 := BP.cell 2
  have cP3 := BP.cell 3
  have cP4 := BP.cell 4
  simp at cP0 cP1 cP2 cP3 cP4
  have Tk : Below w0.heap.size w0 w0 := Below.refl _ _
  have HT0 := Lib.hid T0
  have HQF := Lib.hid (qF.next T0)
  have HQR := Lib.hid qR
  have HQZ := Lib.hid qZ
  have HCN : Hid (x.2.2.1.length + cntS shFact.cnt x.2.2.1 ≤ 1048576) := by show _ ≤ _; omega
  have hs0 : w0.heap.size = w.heap.size + 2 := hsz0
  have hs1 : w.heap.size + 1 < w0.heap.size := by omega
  have HS0 := Lib.hid hs0
  clear hw0 hsz0 h qO qF hcn hn qR qZ T0 hs0
  go_enter Tryz.func43, Tryz.ntmps43
  go_upto_region 1 with fail
  rw [← HW0.out]
  have HD := Lib.hid (And.intro cP0 (And.intro cP1 (And.intro cP2 cP4)))
  go_cut [3] from 6 to 13 (fun u3 wx => ∃ g v css bls, u3 = .pointer (some ⟨g, 0, none⟩) ∧ Blk wx g 27 #[.bool x.1, .int .i64 x.2.1.1, v, .slice none 0 0, .int .i64 x.2.2.2] ∧ PO w0.heap.size wx v x.2.1.2 css bls ∧ Below w0.heap.size w0 wx ∧ w0.heap.size ≤ g)
  case first =>
    refine wp_region_held_drew (S := fun w' => w'.cell? ⟨w.heap.size, 0, none⟩ = some (.bool x.1) ∧ w'.cell? ⟨w.heap.size, 1, none⟩ = some (.int .i64 x.2.1.1) ∧ w'.cell? ⟨w.heap.size, 2, none⟩ = some (.slice Bo k d) ∧ w'.cell? ⟨w.heap.size, 4, none⟩ = some (.int .i64 x.2.2.2)) (by kernel_rfl) ⟨cP0, cP1, cP2, cP4⟩ (fun hHeld0 => ?_)
    obtain ⟨wt1, Hwt1⟩ : ∃ x, Hid (x = World.drew w0) := ⟨_, rfl⟩
    have hbwt1 : Below w0.heap.size w0 wt1 := by rw [Hwt1.out]; exact (Below.refl _ _).drew
    rw [← Hwt1.out] at hHeld0 ⊢
    have ywt1 := hbwt1.size
    replace Tk := below_next Tk hbwt1 rfl
    replace cP0 := keepc hbwt1 cP0
    replace cP1 := keepc hbwt1 cP1
    replace cP2 := keepc hbwt1 cP2
    replace cP4 := keepc hbwt1 cP4
    refine wpAnyH_take (i := 0) (v := .pointer (some ⟨w.heap.size, 0, none⟩)) rfl (by kernel_rfl) (by kernel_rfl) (by kernel_rfl) (fun _ _ _ h => h) (Or.inl ⟨by kernel_rfl, fun _ _ => by go_simp⟩) (by assumption) ?_
    (try simp only [Act.put, List.getElem_toArray, List.getElem_cons_zero, List.getElem_cons_succ, List.setIfInBounds_toArray, List.set_cons_zero, List.set_cons_succ])
    refine wpAnyH_take (i := 1) (v := .bool x.1) rfl (by kernel_rfl) (by kernel_rfl) (by kernel_rfl) (fun _ _ _ h => h) (Or.inl ⟨by kernel_rfl, fun wv hSw => by (obtain ⟨hS0, hS1, hS2, hS3⟩ := hSw); go_simp⟩) (by assumption) ?_
    (try simp only [Act.put, List.getElem_toArray, List.getElem_cons_zero, List.getElem_cons_succ, List.setIfInBounds_toArray, List.set_cons_zero, List.set_cons_succ])
    refine wpAnyH_take (i := 2) (v := .pointer (some ⟨w.heap.size, 1, none⟩)) rfl (by kernel_rfl) (by kernel_rfl) (by kernel_rfl) (fun _ _ _ h => h) (Or.inl ⟨by kernel_rfl, fun _ _ => by go_simp⟩) (by assumption) ?_
    (try simp only [Act.put, List.getElem_toArray, List.getElem_cons_zero, List.getElem_cons_succ, List.setIfInBounds_toArray, List.set_cons_zero, List.set_cons_succ])
    refine wpAnyH_take (i := 3) (v := .agg #[.int .i64 x.2.1.1, .slice Bo k d]) rfl (by kernel_rfl) (by kernel_rfl) (by kernel_rfl) (fun _ _ _ h => h) (Or.inl ⟨by kernel_rfl, fun wv hSw => by (obtain ⟨hS0, hS1, hS2, hS3⟩ := hSw); go_simp⟩) (by assumption) ?_
    (try simp only [Act.put, List.getElem_toArray, List.getElem_cons_zero, List.getElem_cons_succ, List.setIfInBounds_toArray, List.set_cons_zero, List.set_cons_succ])
    refine wpAnyH_take (i := 5) (v := .pointer (some ⟨w.heap.size, 4, none⟩)) rfl (by kernel_rfl) (by kernel_rfl) (by kernel_rfl) (fun _ _ _ h => h) (Or.inl ⟨by kernel_rfl, fun _ _ => by go_simp⟩) (by assumption) ?_
    (try simp only [Act.put, List.getElem_toArray, List.getElem_cons_zero, List.getElem_cons_succ, List.setIfInBounds_toArray, List.set_cons_zero, List.set_cons_succ])
    refine wpAnyH_take (i := 6) (v := .int .i64 x.2.2.2) rfl (by kernel_rfl) (by kernel_rfl) (by kernel_rfl) (fun _ _ _ h => h) (Or.inl ⟨by kernel_rfl, fun wv hSw => by (obtain ⟨hS0, hS1, hS2, hS3⟩ := hSw); go_simp⟩) (by assumption) ?_
    (try simp only [Act.put, List.getElem_toArray, List.getElem_cons_zero, List.getElem_cons_succ, List.setIfInBounds_toArray, List.set_cons_zero, List.set_cons_succ])
    refine wpAnyH_ready (rs := [4, 8]) (by kernel_rfl) (by simp) ?_
    refine (AllReadyH.cons rfl (fun K hK => ?_) (AllReadyH.cons rfl (fun K hK => ?_) AllReadyH.nil))
    · go_simp
      refine (HCL.out _ Tk).mono ?_
      rintro e wt2 ⟨v4, css4, bls4, rfl, hPO, hbwt2⟩
      obtain ⟨A4, c4, rfl⟩ := own_slice hPO.2.1
      replace hPO := hPO.mono Tk.size
      go_wp2_with fail
      have ywt2 := hbwt2.size
      replace Tk := below_next Tk hbwt2 rfl
      replace cP0 := keepc hbwt2 cP0
      replace cP1 := keepc hbwt2 cP1
      replace cP2 := keepc hbwt2 cP2
      replace cP4 := keepc hbwt2 cP4
      refine hK.out _ _ ⟨cP0, cP1, cP2, cP4⟩ (fun hHeld1 => ?_)
      clear hK K hHeld0
      (try simp only [Act.put, List.getElem_toArray, List.getElem_cons_zero, List.getElem_cons_succ, List.setIfInBounds_toArray, List.set_cons_zero, List.set_cons_succ])
      refine wpAnyH_take (i := 7) (v := .agg #[.bool x.1, .int .i64 x.2.1.1, .slice A4 x.2.1.2.length c4, .slice none 0 0, .int .i64 x.2.2.2]) rfl (by kernel_rfl) (by kernel_rfl) (by kernel_rfl) (fun _ _ _ h => h) (Or.inl ⟨by kernel_rfl, fun _ _ => by go_simp⟩) (by assumption) ?_
      (try simp only [Act.put, List.getElem_toArray, List.getElem_cons_zero, List.getElem_cons_succ, List.setIfInBounds_toArray, List.set_cons_zero, List.set_cons_succ])
      refine wpAnyH_ready (rs := [8]) (by kernel_rfl) (by simp) ?_
      refine (AllReadyH.cons rfl (fun K hK => ?_) AllReadyH.nil)
      go_simp
      obtain ⟨wt3, Hwt3⟩ : ∃ x, Hid (x = wt2.alloc (.cells #[.bool false, .int .i64 0, .slice none 0 0, .slice none 0 0, .int .i64 0] 27)) := ⟨_, Lib.hid rfl⟩
      rw [← Hwt3.out]
      have hbwt3 : Below wt2.heap.size wt2 wt3 := by rw [Hwt3.out]; exact below_box _ _
      have Bwt3 : Blk wt3 wt2.heap.size 27 #[.bool false, .int .i64 0, .slice none 0 0, .slice none 0 0, .int .i64 0] := by rw [Hwt3.out]; exact Blk.new _ _ _
      have zwt3 : wt2.heap.size < wt3.heap.size := Bwt3.lt
      have ywt3 := hbwt3.size
      replace Tk := below_next Tk hbwt3 rfl
      replace hPO := hPO.next hbwt3
      replace cP0 := keepc hbwt3 cP0
      replace cP1 := keepc hbwt3 cP1
      replace cP2 := keepc hbwt3 cP2
      replace cP4 := keepc hbwt3 cP4
      refine hK.out _ _ ⟨cP0, cP1, cP2, cP4⟩ (fun hHeld2 => ?_)
      clear hK K hHeld1
      (try simp only [Act.put, List.getElem_toArray, List.getElem_cons_zero, List.getElem_cons_succ, List.setIfInBounds_toArray, List.set_cons_zero, List.set_cons_succ])
      refine wpAnyH_ready (rs := [9]) (by kernel_rfl) (by simp) ?_
      refine (AllReadyH.cons rfl (fun K hK => ?_) AllReadyH.nil)
      have gC0 := Bwt3.cell 0
      have gC1 := Bwt3.cell 1
      have gC2 := Bwt3.cell 2
      have gC3 := Bwt3.cell 3
      have gC4 := Bwt3.cell 4
      simp at gC0 gC1 gC2 gC3 gC4
      have gF0 := Bwt3.frozen 0
      have gF1 := Bwt3.frozen 1
      have gF2 := Bwt3.frozen 2
      have gF3 := Bwt3.frozen 3
      have gF4 := Bwt3.frozen 4
      go_simp
      obtain ⟨wt4, Hwt4⟩ : ∃ wq, Hid (wq = (((((wt3.setCell ⟨wt2.heap.size, 0, none⟩ (.bool x.1)).setCell ⟨wt2.heap.size, 1, none⟩ (.int .i64 x.2.1.1)).setCell ⟨wt2.heap.size, 2, none⟩ (.slice A4 x.2.1.2.length c4)).setCell ⟨wt2.heap.size, 3, none⟩ (.slice none 0 0)).setCell ⟨wt2.heap.size, 4, none⟩ (.int .i64 x.2.2.2))) := ⟨_, Lib.hid rfl⟩
      rw [← Hwt4.out]
      have BGf : Blk wt4 wt2.heap.size 27 #[.bool x.1, .int .i64 x.2.1.1, .slice A4 x.2.1.2.length c4, .slice none 0 0, .int .i64 x.2.2.2] := by rw [Hwt4.out]; simpa using (((((Bwt3.set_ 0 (.bool x.1)).set_ 1 (.int .i64 x.2.1.1)).set_ 2 (.slice A4 x.2.1.2.length c4)).set_ 3 (.slice none 0 0)).set_ 4 (.int .i64 x.2.2.2))
      have hP0 := PO.setB (k := 0) hPO Bwt3 (by decide) (by decide) (.bool x.1)
      have hP1 := PO.setB (k := 1) hP0 (Bwt3.set_ 0 (.bool x.1)) (by decide) (by decide) (.int .i64 x.2.1.1)
      have hP2 := PO.setB (k := 2) hP1 ((Bwt3.set_ 0 (.bool x.1)).set_ 1 (.int .i64 x.2.1.1)) (by decide) (by decide) (.slice A4 x.2.1.2.length c4)
      have hP3 := PO.setB (k := 3) hP2 (((Bwt3.set_ 0 (.bool x.1)).set_ 1 (.int .i64 x.2.1.1)).set_ 2 (.slice A4 x.2.1.2.length c4)) (by decide) (by decide) (.slice none 0 0)
      have hP4 := PO.setB (k := 4) hP3 ((((Bwt3.set_ 0 (.bool x.1)).set_ 1 (.int .i64 x.2.1.1)).set_ 2 (.slice A4 x.2.1.2.length c4)).set_ 3 (.slice none 0 0)) (by decide) (by decide) (.int .i64 x.2.2.2)
      have hPf : PO w0.heap.size wt4 (.slice A4 x.2.1.2.length c4) x.2.1.2 css4 bls4 := by rw [Hwt4.out]; exact hP4
      have Tf : Below w0.heap.size w0 wt4 := by rw [Hwt4.out]; exact (((((Tk.setCell (p := ⟨wt2.heap.size, 0, none⟩) (by show _ ≤ wt2.heap.size; have := Tk.size; omega) (.bool x.1)).setCell (p := ⟨wt2.heap.size, 1, none⟩) (by show _ ≤ wt2.heap.size; have := Tk.size; omega) (.int .i64 x.2.1.1)).setCell (p := ⟨wt2.heap.size, 2, none⟩) (by show _ ≤ wt2.heap.size; have := Tk.size; omega) (.slice A4 x.2.1.2.length c4)).setCell (p := ⟨wt2.heap.size, 3, none⟩) (by show _ ≤ wt2.heap.size; have := Tk.size; omega) (.slice none 0 0)).setCell (p := ⟨wt2.heap.size, 4, none⟩) (by show _ ≤ wt2.heap.size; have := Tk.size; omega) (.int .i64 x.2.2.2))
      replace cP0 := keepc Tf HD.out.1
      replace cP1 := keepc Tf HD.out.2.1
      replace cP2 := keepc Tf HD.out.2.2.1
      replace cP4 := keepc Tf HD.out.2.2.2
      have hgl : w0.heap.size ≤ wt2.heap.size := by omega
      refine hK.out _ _ ⟨cP0, cP1, cP2, cP4⟩ (fun hHeld3 => ?_)
      clear hK K hHeld2
      (try simp only [Act.put, List.getElem_toArray, List.getElem_cons_zero, List.getElem_cons_succ, List.setIfInBounds_toArray, List.set_cons_zero, List.set_cons_succ])
      refine wpAnyH_done (by kernel_rfl) ?_ _
      go_wp2_with fail
      go_meet
      exact ⟨_, _, _, _, rfl, BGf, hPf, Tf, hgl⟩
    · go_simp
      obtain ⟨wt5, Hwt5⟩ : ∃ x, Hid (x = wt1.alloc (.cells #[.bool false, .int .i64 0, .slice none 0 0, .slice none 0 0, .int .i64 0] 27)) := ⟨_, Lib.hid rfl⟩
      rw [← Hwt5.out]
      have hbwt5 : Below wt1.heap.size wt1 wt5 := by rw [Hwt5.out]; exact below_box _ _
      have Bwt5 : Blk wt5 wt1.heap.size 27 #[.bool false, .int .i64 0, .slice none 0 0, .slice none 0 0, .int .i64 0] := by rw [Hwt5.out]; exact Blk.new _ _ _
      have zwt5 : wt1.heap.size < wt5.heap.size := Bwt5.lt
      have ywt5 := hbwt5.size
      replace Tk := below_next Tk hbwt5 rfl
      replace cP0 := keepc hbwt5 cP0
      replace cP1 := keepc hbwt5 cP1
      replace cP2 := keepc hbwt5 cP2
      replace cP4 := keepc hbwt5 cP4
      refine hK.out _ _ ⟨cP0, cP1, cP2, cP4⟩ (fun hHeld1 => ?_)
      clear hK K hHeld0
      (try simp only [Act.put, List.getElem_toArray, List.getElem_cons_zero, List.getElem_cons_succ, List.setIfInBounds_toArray, List.set_cons_zero, List.set_cons_succ])
      refine wpAnyH_ready (rs := [4]) (by kernel_rfl) (by simp) ?_
      refine (AllReadyH.cons rfl (fun K hK => ?_) AllReadyH.nil)
      go_simp
      refine (HCL.out _ Tk).mono ?_
      rintro e wt6 ⟨v4, css4, bls4, rfl, hPO, hbwt6⟩
      obtain ⟨A4, c4, rfl⟩ := own_slice hPO.2.1
      replace hPO := hPO.mono Tk.size
      go_wp2_with fail
      have ywt6 := hbwt6.size
      replace Tk := below_next Tk hbwt6 rfl
      replace Bwt5 := Bwt5.next hbwt6
      replace cP0 := keepc hbwt6 cP0
      replace cP1 := keepc hbwt6 cP1
      replace cP2 := keepc hbwt6 cP2
      replace cP4 := keepc hbwt6 cP4
      refine hK.out _ _ ⟨cP0, cP1, cP2, cP4⟩ (fun hHeld2 => ?_)
      clear hK K hHeld1
      (try simp only [Act.put, List.getElem_toArray, List.getElem_cons_zero, List.getElem_cons_succ, List.setIfInBounds_toArray, List.set_cons_zero, List.set_cons_succ])
      refine wpAnyH_take (i := 7) (v := .agg #[.bool x.1, .int .i64 x.2.1.1, .slice A4 x.2.1.2.length c4, .slice none 0 0, .int .i64 x.2.2.2]) rfl (by kernel_rfl) (by kernel_rfl) (by kernel_rfl) (fun _ _ _ h => h) (Or.inl ⟨by kernel_rfl, fun _ _ => by go_simp⟩) (by assumption) ?_
      (try simp only [Act.put, List.getElem_toArray, List.getElem_cons_zero, List.getElem_cons_succ, List.setIfInBounds_toArray, List.set_cons_zero, List.set_cons_succ])
      refine wpAnyH_ready (rs := [9]) (by kernel_rfl) (by simp) ?_
      refine (AllReadyH.cons rfl (fun K hK => ?_) AllReadyH.nil)
      have gC0 := Bwt5.cell 0
      have gC1 := Bwt5.cell 1
      have gC2 := Bwt5.cell 2
      have gC3 := Bwt5.cell 3
      have gC4 := Bwt5.cell 4
      simp at gC0 gC1 gC2 gC3 gC4
      have gF0 := Bwt5.frozen 0
      have gF1 := Bwt5.frozen 1
      have gF2 := Bwt5.frozen 2
      have gF3 := Bwt5.frozen 3
      have gF4 := Bwt5.frozen 4
      go_simp
      obtain ⟨wt7, Hwt7⟩ : ∃ wq, Hid (wq = (((((wt6.setCell ⟨wt1.heap.size, 0, none⟩ (.bool x.1)).setCell ⟨wt1.heap.size, 1, none⟩ (.int .i64 x.2.1.1)).setCell ⟨wt1.heap.size, 2, none⟩ (.slice A4 x.2.1.2.length c4)).setCell ⟨wt1.heap.size, 3, none⟩ (.slice none 0 0)).setCell ⟨wt1.heap.size, 4, none⟩ (.int .i64 x.2.2.2))) := ⟨_, Lib.hid rfl⟩
      rw [← Hwt7.out]
      have BGf : Blk wt7 wt1.heap.size 27 #[.bool x.1, .int .i64 x.2.1.1, .slice A4 x.2.1.2.length c4, .slice none 0 0, .int .i64 x.2.2.2] := by rw [Hwt7.out]; simpa using (((((Bwt5.set_ 0 (.bool x.1)).set_ 1 (.int .i64 x.2.1.1)).set_ 2 (.slice A4 x.2.1.2.length c4)).set_ 3 (.slice none 0 0)).set_ 4 (.int .i64 x.2.2.2))
      have hP0 := PO.setB (k := 0) hPO Bwt5 (by decide) (by decide) (.bool x.1)
      have hP1 := PO.setB (k := 1) hP0 (Bwt5.set_ 0 (.bool x.1)) (by decide) (by decide) (.int .i64 x.2.1.1)
      have hP2 := PO.setB (k := 2) hP1 ((Bwt5.set_ 0 (.bool x.1)).set_ 1 (.int .i64 x.2.1.1)) (by decide) (by decide) (.slice A4 x.2.1.2.length c4)
      have hP3 := PO.setB (k := 3) hP2 (((Bwt5.set_ 0 (.bool x.1)).set_ 1 (.int .i64 x.2.1.1)).set_ 2 (.slice A4 x.2.1.2.length c4)) (by decide) (by decide) (.slice none 0 0)
      have hP4 := PO.setB (k := 4) hP3 ((((Bwt5.set_ 0 (.bool x.1)).set_ 1 (.int .i64 x.2.1.1)).set_ 2 (.slice A4 x.2.1.2.length c4)).set_ 3 (.slice none 0 0)) (by decide) (by decide) (.int .i64 x.2.2.2)
      have hPf : PO w0.heap.size wt7 (.slice A4 x.2.1.2.length c4) x.2.1.2 css4 bls4 := by rw [Hwt7.out]; exact hP4
      have Tf : Below w0.heap.size w0 wt7 := by rw [Hwt7.out]; exact (((((Tk.setCell (p := ⟨wt1.heap.size, 0, none⟩) (by show _ ≤ wt1.heap.size; have := Tk.size; omega) (.bool x.1)).setCell (p := ⟨wt1.heap.size, 1, none⟩) (by show _ ≤ wt1.heap.size; have := Tk.size; omega) (.int .i64 x.2.1.1)).setCell (p := ⟨wt1.heap.size, 2, none⟩) (by show _ ≤ wt1.heap.size; have := Tk.size; omega) (.slice A4 x.2.1.2.length c4)).setCell (p := ⟨wt1.heap.size, 3, none⟩) (by show _ ≤ wt1.heap.size; have := Tk.size; omega) (.slice none 0 0)).setCell (p := ⟨wt1.heap.size, 4, none⟩) (by show _ ≤ wt1.heap.size; have := Tk.size; omega) (.int .i64 x.2.2.2))
      replace cP0 := keepc Tf HD.out.1
      replace cP1 := keepc Tf HD.out.2.1
      replace cP2 := keepc Tf HD.out.2.2.1
      replace cP4 := keepc Tf HD.out.2.2.2
      have hgl : w0.heap.size ≤ wt1.heap.size := by omega
      refine hK.out _ _ ⟨cP0, cP1, cP2, cP4⟩ (fun hHeld3 => ?_)
      clear hK K hHeld2
      (try simp only [Act.put, List.getElem_toArray, List.getElem_cons_zero, List.getElem_cons_succ, List.setIfInBounds_toArray, List.set_cons_zero, List.set_cons_succ])
      refine wpAnyH_done (by kernel_rfl) ?_ _
      go_wp2_with fail
      go_meet
      exact ⟨_, _, _, _, rfl, BGf, hPf, Tf, hgl⟩
  case rest =>
    obtain ⟨g, v, css, bls, rfl, BG, hPO, T1, hg⟩ := hcut
    obtain ⟨w1, HWC⟩ : ∃ wq : World, wq = wc := ⟨_, rfl⟩
    subst HWC
    obtain ⟨mid, HMID⟩ : ∃ m, Hid (m = w1.heap.size) := ⟨_, Lib.hid rfl⟩
    have hmid : mid ≤ w1.heap.size := by rw [HMID.out]; exact Nat.le_refl _
    have HIV : Hid (Iv w0.heap.size mid (obl v ++ bls.flatten)) := by rw [HMID.out]; exact hPO.2.2
    have hgm : g < mid := by rw [HMID.out]; exact BG.lt
    have hlm : w0.heap.size ≤ mid := by rw [HMID.out]; exact T1.size
    have dP3 := keepc T1 cP3
    have BQ1 := BQ.next T1
    have HBQ := Lib.hid BQ
    clear BQ1 cP0 cP1 cP2 cP4
    go_wp2_with fail
    go_loopw [17] (fun i wr => ∃ (j : Nat) (u : Value) (dss : List (List Value)) (cls : List (List Nat)), j ≤ x.2.2.1.length ∧ i = .int .i64 (j : Int) ∧ Blk wr g 27 #[.bool x.1, .int .i64 x.2.1.1, v, u, .int .i64 x.2.2.2] ∧ PO w0.heap.size wr v x.2.1.2 css bls ∧ PG shFact 4 57 mid wr u (x.2.2.1.take j) dss cls ∧ Below w0.heap.size w0 wr ∧ mid ≤ wr.heap.size) (fun i _ => x.2.2.1.length - (intOf i).toNat)
    case atStart => exact ⟨0, _, _, _, Nat.zero_le _, rfl, BG, hPO, by rw [List.take_zero]; exact PG.nil _ _ _ _ _, T1, hmid⟩
    case round =>
      clear BG hPO T1 hmid dP3 cP3
      obtain ⟨j, u, dss, cls, hj, rfl, BG, hPO, hPG, hT, hmr⟩ := hrel
      by_cases hlt : j < x.2.2.1.length
      · have hj0 : (0 : Int) ≤ (j : Int) := by omega
        have hj1 : (j : Int) < (x.2.2.1.length : Int) := by omega
        obtain ⟨b, o, vs, y, rfl, -, hc, hr, -, hx⟩ := HQF.out.at hlt
        obtain ⟨AL, nL, cL, AR, nR, cR, AV, nV, cV, rfl, qk, qL, qRr, qV⟩ := rdFact hr
        have cc0 : wr.cell? ⟨b, o + j * 4, none⟩ = some (.int .i64 y.1) := keepc hT (hc 0 _ rfl)
        have cc1 : wr.cell? ⟨b, o + j * 4 + 1, none⟩ = some (.slice AL nL cL) := keepc hT (hc 1 _ rfl)
        have cc2 : wr.cell? ⟨b, o + j * 4 + 2, none⟩ = some (.slice AR nR cR) := keepc hT (hc 2 _ rfl)
        have cc3 : wr.cell? ⟨b, o + j * 4 + 3, none⟩ = some (.slice AV nV cV) := keepc hT (hc 3 _ rfl)
        have HTS : Hid (x.2.2.1.take (j + 1) = x.2.2.1.take j ++ [y]) := take_snoc hx
        have hcy : shFact.cnt y ≤ 1048576 := by
          have h1 := cntS_mem (f := shFact.cnt) (List.mem_of_getElem? hx)
          have h2 := HCN.out
          omega
        have hcy' : 0 + ((y.2.1.1.length + y.2.1.2.length) + y.2.2.length) ≤ 1048576 := hcy
        obtain ⟨L, HL⟩ : ∃ L, Hid (x.2.2.1.take j = L) := ⟨_, rfl⟩
        have HLK : Hid (L.length = j) := by show _ = _; rw [← HL.out, List.length_take]; omega
        rw [HL.out] at hPG
        have HTS2 : Hid (x.2.2.1.take (j + 1) = L ++ [y]) := by show _ = _; rw [HTS.out, HL.out]
        obtain ⟨A, cA, rfl⟩ := own_slice hPG.2.1
        obtain ⟨w5, HW5⟩ : ∃ wb, Hid (wb = wr.alloc (.cells #[.int .i64 y.1, .slice AL nL cL, .slice AR nR cR, .slice AV nV cV] 57)) := ⟨_, rfl⟩
        have T5 : Below wr.heap.size wr w5 := by rw [HW5.out]; exact below_box _ _
        have BY : Blk w5 wr.heap.size 57 #[.int .i64 y.1, .slice AL nL cL, .slice AR nR cR, .slice AV nV cV] := by rw [HW5.out]; exact Blk.new _ _ _
        have hT5 := below_next hT T5 rfl
        have HCF : Hid (∀ wz, Below w5.heap.size w5 wz → Calls Tryz.prog 79 #[.agg #[.int .i64 y.1, .slice AL nL cL, .slice AR nR cR, .slice AV nV cV]] wz (CfE wz y)) := fun wz hz =>
          cloneFact_any y.1 AL nL cL AR nR cR AV nV cV y.2.1.1 y.2.1.2 y.2.2 wz (qL.next stab_RI (below_next hT5 hz rfl)) (qRr.next stab_RI (below_next hT5 hz rfl)) (qV.next stab_RI (below_next hT5 hz rfl)) (by rw [← qL.len]; omega) (by rw [← qRr.len]; omega) (by rw [← qV.len]; omega)
        have HBD : Hid ((∀ v ∈ y.2.1.1, InR v) ∧ (∀ v ∈ y.2.1.2, InR v) ∧ (∀ v ∈ y.2.2, InR v)) := ⟨qL.bounds, qRr.bounds, qV.bounds⟩
        have HQK := Lib.hid qk
        have cY0 := BY.cell 0
        have cY1 := BY.cell 1
        have cY2 := BY.cell 2
        have cY3 := BY.cell 3
        simp at cY0 cY1 cY2 cY3
        have BG5 := BG.next T5
        have cO5 := BG5.cell 3
        have fO5 := BG5.frozen 3
        simp at cO5
        have hPO5 := hPO.next T5
        have hP5 := hPG.next T5
        have hm5 : mid ≤ w5.heap.size := by have := T5.size; omega
        have hz5 := T5.size
        have Tk : Below w5.heap.size w5 w5 := Below.refl _ _
        clear hc hx hr hPG cY0 cY1 cY2 cY3 hcy hcy' qL qRr qV qk
        have cY0 := BY.cell 0
        have cY1 := BY.cell 1
        have cY2 := BY.cell 2
        have cY3 := BY.cell 3
        simp at cY0 cY1 cY2 cY3
        go_upto_region 5 with fail
        rw [← HW5.out]
        clear cc0 cc1 cc2 cc3
        go_region_law (first
          | (refine step_appU w6 rfl (.tmp 22) (.tmp 25) 25 57 rfl (.agg #[.int .i64 0, .slice none 0 0, .slice none 0 0, .slice none 0 0]) 4 80 Tryz.underlying25 info_fact4 rfl (by decide) (by decide) mid L.length cA A dss.flatten (by rfl) hvs [.int .i64 y.1, .slice A1 y.2.1.1.length c1, .slice A2 y.2.1.2.length c2, .slice A3 y.2.2.length c3] rfl (by intro q hq; simp at hq; rcases hq with rfl | rfl | rfl | rfl <;> rfl) (by rfl) (by have := HLK.out; omega) (by omega) ?_; intro A8 c8 w8 hown8 hg8 hb8; have BG8 := BG6.grown hg8 (fun e => own_off hvs BG6 (by decide) e.symm); have cO8 := BG8.cell 3; have fO8 := BG8.frozen 3; simp at cO8)
          | (go_simp; go_at_call 79; (with_reducible refine (HCF.out _ ?_).mono ?_); (first | exact Tk | exact Below.drew Tk); rintro e w6 hcf; obtain ⟨A1, c1, A2, c2, A3, c3, bk, rfl, hO6, hiv6, hbn⟩ := cf_own hcf HQK.out HBD.out.1 HBD.out.2.1 HBD.out.2.2; have hb := below_next (Below.drew (Below.refl w5.heap.size w5)) hbn rfl; have hiv6' : Iv w5.heap.size w6.heap.size bk := hiv6; obtain ⟨hvs, HPU⟩ := hP5.push noE_fact rfl hb hm5 hO6 hiv6'; have hsz6 := hb.size; have BG6 := BG5.next hb; have cO6 := BG6.cell 3; have fO6 := BG6.frozen 3; have cO6a := (BG6.alloc (.cells #[.int .i64 y.1, .slice A1 y.2.1.1.length c1, .slice A2 y.2.1.2.length c2, .slice A3 y.2.2.length c3] 57)).cell 3; simp at cO6 cO6a; have dY0 := (BY.next hb).cell 0; have dY1 := (BY.next hb).cell 1; have dY2 := (BY.next hb).cell 2; have dY3 := (BY.next hb).cell 3; simp at dY0 dY1 dY2 dY3))
        all_goals
          have PN := PGf.setB (k := 3) (HPU hown8 hg8) BG8 (by decide) (by decide) (.slice A8 (L.length + 1) c8)
          have hT8 : Below w0.heap.size w0 (w8.setCell ⟨g, 3, none⟩ (.slice A8 (L.length + 1) c8)) := ((below_next hT5 hb rfl).trans (hb8.mono (by omega))).setCell (p := ⟨g, 3, none⟩) (by exact hg) _
          have BG9 : Blk (w8.setCell ⟨g, 3, none⟩ (.slice A8 (L.length + 1) c8)) g 27 #[.bool x.1, .int .i64 x.2.1.1, v, .slice A8 (L.length + 1) c8, .int .i64 x.2.2.2] := by simpa using BG8.set_ 3 (.slice A8 (L.length + 1) c8)
          have hPO8 : PO w0.heap.size w8 v x.2.1.2 css bls := (hPO5.next hb).same hg8.size fun b hb' => hb8.block b (by have := HIV.out.2 b hb'; omega)
          have hPO9 := PO.setB (k := 3) hPO8 BG8 (by decide) (by decide) (.slice A8 (L.length + 1) c8)
          have hm9 : mid ≤ (w8.setCell ⟨g, 3, none⟩ (.slice A8 (L.length + 1) c8)).heap.size := by simp; have := hb8.size; omega
          have HFIN := Lib.hid (And.intro BG9 (And.intro hPO9 (And.intro PN (And.intro hT8 hm9))))
          clear BG9 hPO9 PN hT8 hPO8 hown8 hb8 hvs HPU hb cO6 cO6a fO6 dY0 dY1 dY2 dY3
          go_wp2_with fail
          go_roundw
          case rel => exact ⟨j + 1, _, _, _, by omega, by go_num, HFIN.out.1, HFIN.out.2.1, by rw [HTS2.out]; exact HFIN.out.2.2.1, HFIN.out.2.2.2.1, HFIN.out.2.2.2.2⟩
          case measure => simp [intOf]; omega
      · obtain rfl : j = x.2.2.1.length := by omega
        have hlt' : ¬ (x.2.2.1.length : Int) < (x.2.2.1.length : Int) := by omega
        rw [List.take_of_length_le (Nat.le_refl _)] at hPG
        obtain ⟨Av, cv, rfl⟩ := own_slice hPO.2.1
        obtain ⟨Au, cu, rfl⟩ := own_slice hPG.2.1
        have BQr := HBQ.out.next hT
        have cG0 := BG.cell 0
        have cG1 := BG.cell 1
        have cG2 := BG.cell 2
        have cG3 := BG.cell 3
        have cG4 := BG.cell 4
        have cQ0 := BQr.cell 0
        have cQ1 := BQr.cell 1
        have cQ2 := BQr.cell 2
        have cQ3 := BQr.cell 3
        have cQ4 := BQr.cell 4
        have fQ0 := BQr.frozen 0
        have fQ1 := BQr.frozen 1
        have fQ2 := BQr.frozen 2
        have fQ3 := BQr.frozen 3
        have fQ4 := BQr.frozen 4
        simp at cG0 cG1 cG2 cG3 cG4 cQ0 cQ1 cQ2 cQ3 cQ4
        obtain ⟨wf, HWF⟩ : ∃ wf, Hid (wf = ((((wr.setCell ⟨w.heap.size + 1, 0, none⟩ (.bool x.1)).setCell ⟨w.heap.size + 1, 1, none⟩ (.int .i64 x.2.1.1)).setCell ⟨w.heap.size + 1, 2, none⟩ (.slice Av x.2.1.2.length cv)).setCell ⟨w.heap.size + 1, 3, none⟩ (.slice Au x.2.2.1.length cu)).setCell ⟨w.heap.size + 1, 4, none⟩ (.int .i64 x.2.2.2)) := ⟨_, Lib.hid rfl⟩
        have hpp : w.heap.size + 1 < w0.heap.size := hs1
        have BRR : Blk wf (w.heap.size + 1) 27 #[.bool x.1, .int .i64 x.2.1.1, .slice Av x.2.1.2.length cv, .slice Au x.2.2.1.length cu, .int .i64 x.2.2.2] := by rw [HWF.out]; simpa using ((((BQr.set_ 0 (.bool x.1)).set_ 1 (.int .i64 x.2.1.1)).set_ 2 (.slice Av x.2.1.2.length cv)).set_ 3 (.slice Au x.2.2.1.length cu)).set_ 4 (.int .i64 x.2.2.2)
        have HPO : Hid (PO w0.heap.size wf (.slice Av x.2.1.2.length cv) x.2.1.2 css bls) := by rw [HWF.out]; exact ((((hPO.far (p := ⟨w.heap.size + 1, 0, none⟩) hpp _).far (p := ⟨w.heap.size + 1, 1, none⟩) hpp _).far (p := ⟨w.heap.size + 1, 2, none⟩) hpp _).far (p := ⟨w.heap.size + 1, 3, none⟩) hpp _).far (p := ⟨w.heap.size + 1, 4, none⟩) hpp _
        have hpm : w.heap.size + 1 < mid := by omega
        have HPG : Hid (PG shFact 4 57 mid wf (.slice Au x.2.2.1.length cu) x.2.2.1 dss cls) := by rw [HWF.out]; exact ((((hPG.far (p := ⟨w.heap.size + 1, 0, none⟩) hpm _).far (p := ⟨w.heap.size + 1, 1, none⟩) hpm _).far (p := ⟨w.heap.size + 1, 2, none⟩) hpm _).far (p := ⟨w.heap.size + 1, 3, none⟩) hpm _).far (p := ⟨w.heap.size + 1, 4, none⟩) hpm _
        have hpl : w.heap.size ≤ w.heap.size + 1 := by omega
        have HTT : Hid (Below w.heap.size w wf) := by rw [HWF.out]; exact (((((below_next HT0.out hT rfl).setCell (p := ⟨w.heap.size + 1, 0, none⟩) hpl _).setCell (p := ⟨w.heap.size + 1, 1, none⟩) hpl _).setCell (p := ⟨w.heap.size + 1, 2, none⟩) hpl _).setCell (p := ⟨w.heap.size + 1, 3, none⟩) hpl _).setCell (p := ⟨w.heap.size + 1, 4, none⟩) hpl _
        have hgne : g ≠ w.heap.size + 1 := by omega
        clear hPO hPG BQr
        go_wp2_with fail
        rw [← HWF.out]
        (try simp only [Exit.inBlock, Exit.then])
        refine bodyPost_ret (v := .agg #[.bool x.1, .int .i64 x.2.1.1, .slice Av x.2.1.2.length cv, .slice Au x.2.2.1.length cu, .int .i64 x.2.2.2]) (results_cell_row rfl _ _ (w.heap.size + 1) 27 #[.bool x.1, .int .i64 x.2.1.1, .slice Av x.2.1.2.length cv, .slice Au x.2.2.1.length cu, .int .i64 x.2.2.2] (0, 0) _ (by simp) BRR Tryz.underlying27 rfl (by kernel_rfl)) rfl ?_
        exact ⟨_, _, rfl, ⟨css, bls, dss, cls, mid, HPO.out.mono (by omega), HIV.out.mono (by omega) (Nat.le_refl _), by omega, HPG.out⟩, HTT.out⟩
end Go.Proofs.YtfnmkbpogbekpaaGreatDoor
namespace Go.Proofs.YtfnmkbpogbekpaaGreatDoor
open Go.RowKit
set_option linter.unusedVariables false

noncomputable def posFr (f : FactM) : List FactM → Int → Int
  | [], _ => -1
  | g :: l, k => if eqC f g then k else posFr f l (k + 1)
noncomputable def posF (xs : List FactM) (f : FactM) : Int := posFr f xs 0
def PfAt (xs : List FactM) (f : FactM) (k : Nat) : Prop := posFr f (xs.drop k) k = posF xs f
theorem PfAt.step {xs : List FactM} {f g : FactM} {k : Nat} (h : PfAt xs f k) (hd : xs.drop k = g :: xs.drop (k + 1)) (he : eqC f g = false) : PfAt xs f (k + 1) := by
  unfold PfAt at *
  rw [← h, hd, posFr, if_neg (by rw [he]; decide)]
  rfl
theorem PfAt.stop {xs : List FactM} {f g : FactM} {k : Nat} (h : PfAt xs f k) (hd : xs.drop k = g :: xs.drop (k + 1)) (he : eqC f g = true) : (k : Int) = posF xs f := by
  unfold PfAt at *
  rw [← h, hd, posFr, if_pos he]
theorem PfAt.done {xs : List FactM} {f : FactM} {k : Nat} (h : PfAt xs f k) (hd : xs.drop k = []) : -1 = posF xs f := by
  unfold PfAt at *
  rw [← h, hd]
  rfl
set_option maxHeartbeats 4000000 in
theorem factIndex_any (A : Option Addr) (n c : Nat) (ds : List Value) (xs : List FactM) (f : FactM) (w : World) (h : RdN shFact.m shFact.rd w A n xs) (h' : shFact.rd w ds f) :
    Calls Tryz.prog 76 #[.slice A n c, .agg ds.toArray] w (Bl w (.int .i64 (posF xs f))) := by
  have hrd' := h'
  obtain ⟨AL, nL, cL, AR, nR, cR, AV, nV, cV, rfl, -, -, -, -⟩ := rdFact h'
  have hle := h.le
  obtain ⟨w0, hw0, T0, hsz0, BP⟩ := boxes1 w #[.int .i64 f.1, .slice AL nL cL, .slice AR nR cR, .slice AV nV cV] 57
  have HW0 := Lib.hid hw0
  replace h := h.next T0
  have HF : Hid (∀ wz, Below w0.heap.size w0 wz → shFact.rd wz [.int .i64 f.1, .slice AL nL cL, .slice AR nR cR, .slice AV nV cV] f) := fun wz hz => shFact.stab (shFact.stab hrd' T0.block) hz.block
  have cP0 := BP.cell 0
  have cP1 := BP.cell 1
  have cP2 := BP.cell 2
  have cP3 := BP.cell 3
  simp at cP0 cP1 cP2 cP3
  clear hw0 hsz0 hrd' h'
  go_enter Tryz.func76, Tryz.ntmps76
  go_upto_region 1 with fail
  rw [← HW0.out]
  go_wp2_with fail
  go_loopw [9] (fun i wr => ∃ k : Nat, k ≤ n ∧ i = .int .i64 k ∧ Hid (PfAt xs f k) ∧ Below w0.heap.size w0 wr) (fun i _ => n - (intOf i).toNat)
  case atStart => exact ⟨0, Nat.zero_le _, rfl, rfl, Below.refl _ _⟩
  case round =>
    obtain ⟨k, hk, rfl, HA, hTr⟩ := hrel
    by_cases hlt : k < n
    · have hk0 : (0 : Int) ≤ (k : Int) := by omega
      have hk1 : (k : Int) < (n : Int) := by omega
      obtain ⟨b, o, vs, g, rfl, -, hc, hr, hd, -⟩ := (h.next hTr).at hlt
      have hrg := hr
      obtain ⟨BL, mL, eL, BR, mR, eR, BV, mV, eV, rfl, -, -, -, -⟩ := rdFact hr
      have cc0 : wr.cell? ⟨b, o + k * 4, none⟩ = some (.int .i64 g.1) := hc 0 _ rfl
      have cc1 : wr.cell? ⟨b, o + k * 4 + 1, none⟩ = some (.slice BL mL eL) := hc 1 _ rfl
      have cc2 : wr.cell? ⟨b, o + k * 4 + 2, none⟩ = some (.slice BR mR eR) := hc 2 _ rfl
      have cc3 : wr.cell? ⟨b, o + k * 4 + 3, none⟩ = some (.slice BV mV eV) := hc 3 _ rfl
      have HD := Lib.hid hd
      obtain ⟨w1, hw1, T1, hsz1, BX⟩ := boxes1 wr #[.int .i64 g.1, .slice BL mL eL, .slice BR mR eR, .slice BV mV eV] 57
      have HW1 := Lib.hid hw1
      have T01 := below_next hTr T1 rfl
      have HS := Lib.hid (sameFact_any _ _ f g w1 (HF.out _ T01) (shFact.stab hrg T1.block))
      obtain ⟨bb, HBB⟩ : ∃ z, Hid (eqC f g = z) := ⟨_, rfl⟩
      rw [HBB.out] at HS
      have kP0 := keepc T01 cP0
      have kP1 := keepc T01 cP1
      have kP2 := keepc T01 cP2
      have kP3 := keepc T01 cP3
      have cX0 := BX.cell 0
      have cX1 := BX.cell 1
      have cX2 := BX.cell 2
      have cX3 := BX.cell 3
      simp at cX0 cX1 cX2 cX3
      clear hc hr hrg hd hw1 hsz1
      go_upto_region 4 with fail
      rw [← HW1.out]
      go_wp2_with fail
      refine HS.out.mono ?_
      rintro e w2 ⟨rfl, hb2⟩
      have T2 := below_next T01 hb2 rfl
      rcases bb with _ | _
      · have HA2 := Lib.hid (HA.out.step HD.out HBB.out)
        go_wp2_with fail
        go_roundw
        case rel => exact ⟨k + 1, by omega, by go_num, HA2, T2⟩
        case measure => simp [intOf]; try omega
      · go_wp2_with fail
        go_ret
        exact ⟨ret_int (HA.out.stop HD.out HBB.out), below_next T0 T2 rfl⟩
    · have hk1 : ¬ (k : Int) < (n : Int) := by omega
      have HE : Hid (xs.drop k = []) := List.drop_eq_nil_of_le (by rw [h.len]; omega)
      go_wp2_with fail
      go_ret
      exact ⟨ret_int (HA.out.done HE.out), below_next T0 hTr rfl⟩
end Go.Proofs.YtfnmkbpogbekpaaGreatDoor
namespace Go.Proofs.YtfnmkbpogbekpaaGreatDoor
open Go.RowKit
set_option linter.unusedVariables false

end Go.Proofs.YtfnmkbpogbekpaaGreatDoor
namespace Go.Proofs.YtfnmkbpogbekpaaGreatDoor
open Go.RowKit
set_option linter.unusedVariables false

noncomputable def memF (pre : List FactM) (f : FactM) : Bool := decide (0 ≤ posF pre f)
noncomputable def goFs (x : AlgebraM) : List FactM → List FactM → Bool
  | _, [] => true
  | pre, f :: r => trueB x f && !memF pre f && goFs x (pre ++ [f]) r
noncomputable def labB (x : LabM) : Bool :=
  decide (0 ≤ x.2.2.2) && decide (x.2.2.2 ≤ 9999) && (if x.1 = true then algB x.2.1 && decide (x.2.2.1.length ≤ 12) && goFs x.2.1 [] x.2.2.1 else decide (x.2.1.1 = 0) && decide (x.2.1.2.length = 0) && decide (x.2.2.1.length = 0))
theorem labB_lo {x : LabM} (h : x.2.2.2 < 0) : labB x = false := by unfold labB; rw [decide_eq_false (show ¬ 0 ≤ x.2.2.2 by omega)]; rfl
theorem labB_hi {x : LabM} (h : 9999 < x.2.2.2) : labB x = false := by unfold labB; rw [decide_eq_false (show ¬ x.2.2.2 ≤ 9999 by omega), Bool.and_false]; rfl
theorem labB_shut {x : LabM} (h0 : 0 ≤ x.2.2.2) (h1 : x.2.2.2 ≤ 9999) (ho : x.1 = false) : labB x = (decide (x.2.1.1 = 0) && decide (x.2.1.2.length = 0) && decide (x.2.2.1.length = 0)) := by
  unfold labB; rw [decide_eq_true h0, decide_eq_true h1, ho]; rfl
theorem labB_open {x : LabM} (h0 : 0 ≤ x.2.2.2) (h1 : x.2.2.2 ≤ 9999) (ho : x.1 = true) : labB x = (algB x.2.1 && decide (x.2.2.1.length ≤ 12) && goFs x.2.1 [] x.2.2.1) := by
  unfold labB; rw [decide_eq_true h0, decide_eq_true h1, ho]; rfl
def FsAt (x : AlgebraM) (fs : List FactM) (k : Nat) : Prop := goFs x (fs.take k) (fs.drop k) = goFs x [] fs
theorem FsAt.zero (x : AlgebraM) (fs : List FactM) : FsAt x fs 0 := rfl
theorem take_next {α : Type} {xs : List α} {g : α} {k : Nat} (hd : xs.drop k = g :: xs.drop (k + 1)) : xs.take (k + 1) = xs.take k ++ [g] := by
  have hk : xs[k]? = some g := by
    have := congrArg (fun l => l[0]?) hd
    simpa using this
  rw [List.take_add_one, hk]
  rfl
theorem FsAt.step {x : AlgebraM} {fs : List FactM} {k : Nat} {g : FactM} (h : FsAt x fs k) (hd : fs.drop k = g :: fs.drop (k + 1)) (h1 : trueB x g = true) (h2 : memF (fs.take k) g = false) : FsAt x fs (k + 1) := by
  unfold FsAt at *
  rw [← h, hd, goFs, h1, h2, take_next hd]
  rfl
theorem FsAt.stop1 {x : AlgebraM} {fs : List FactM} {k : Nat} {g : FactM} (h : FsAt x fs k) (hd : fs.drop k = g :: fs.drop (k + 1)) (h1 : trueB x g = false) : false = goFs x [] fs := by
  unfold FsAt at *
  rw [← h, hd, goFs, h1]
  rfl
theorem FsAt.stop2 {x : AlgebraM} {fs : List FactM} {k : Nat} {g : FactM} (h : FsAt x fs k) (hd : fs.drop k = g :: fs.drop (k + 1)) (h2 : memF (fs.take k) g = true) : false = goFs x [] fs := by
  unfold FsAt at *
  rw [← h, hd, goFs, h2, Bool.not_true, Bool.and_false]
  rfl
theorem FsAt.done {x : AlgebraM} {fs : List FactM} {k : Nat} (h : FsAt x fs k) (hd : fs.drop k = []) : true = goFs x [] fs := by
  unfold FsAt at *
  rw [← h, hd]
  rfl
end Go.Proofs.YtfnmkbpogbekpaaGreatDoor
namespace Go.Proofs.YtfnmkbpogbekpaaGreatDoor
open Go.RowKit
set_option linter.unusedVariables false

theorem RdN.take {α : Type} {m : Nat} {R : World → List Value → α → Prop} {w : World} {A : Option Addr} {n k : Nat} {xs : List α} (h : RdN m R w A n xs) (hk : k ≤ n) : RdN m R w A k (xs.take k) :=
  ⟨by rw [List.length_take, h.1]; omega, Nat.le_trans hk h.2.1, fun i x hi => h.2.2 i x (by
    rw [List.getElem?_take] at hi
    split at hi
    · exact hi
    · exact absurd hi (by simp))⟩
set_option maxRecDepth 20000 in
set_option maxHeartbeats 16000000 in
theorem implIsLab_any (HIT : ∀ (cs ds : List Value) (x : AlgebraM) (f : FactM) (w : World), shAlgebra.rd w cs x → shFact.rd w ds f → algB x = true → Calls Tryz.prog 75 #[.agg cs.toArray, .agg ds.toArray] w (Bl w (.bool (trueB x f)))) (cs : List Value) (x : LabM) (w : World) (h : shLab.rd w cs x) (hcap : ∀ F n c, cs[3]? = some (.slice F n c) → n ≤ c) :
    Calls Tryz.prog 41 #[.agg cs.toArray] w (Bl w (.bool (labB x))) := by
  obtain ⟨op, ⟨z, os⟩, fs, r⟩ := x
  obtain ⟨B, k, d, F, n, c, rfl, qz, qB, qF, qr⟩ := rdLab h
  have hcn : n ≤ c := hcap F n c rfl
  clear hcap
  have qA : shAlgebra.rd w [.int .i64 z, .slice B k d] (z, os) := mkAlgebra (x := (z, os)) qz qB
  have HLK : Hid (os.length = k) := qB.len
  have HLN : Hid (fs.length = n) := qF.len
  have hlk := qB.le
  have hln := qF.le
  have hr0 : -9223372036854775808 ≤ r := qr.1
  have hr1 : r ≤ 9223372036854775807 := qr.2
  show Calls Tryz.prog 41 #[.agg #[.bool op, .int .i64 z, .slice B k d, .slice F n c, .int .i64 r]] w (Bl w (.bool (labB (op, (z, os), fs, r))))
  obtain ⟨w0, hw0, T0, hsz0, BP⟩ := boxes1 w #[.bool op, .int .i64 z, .slice B k d, .slice F n c, .int .i64 r] 27
  have HW0 := Lib.hid hw0
  have H1 : Hid (∀ wz, Below w0.heap.size w0 wz → shAlgebra.rd wz [.int .i64 z, .slice B k d] (z, os)) := fun wz hz => shAlgebra.stab (shAlgebra.stab qA T0.block) hz.block
  have HIF := Lib.hid HIT
  have HQF := Lib.hid (qF.next T0)
  have cP0 := BP.cell 0
  have cP1 := BP.cell 1
  have cP2 := BP.cell 2
  have cP3 := BP.cell 3
  have cP4 := BP.cell 4
  simp at cP0 cP1 cP2 cP3 cP4
  clear hw0 hsz0 qz qB qF qr qA h HIT
  go_enter Tryz.func41, Tryz.ntmps41
  go_upto_region 1 with fail
  rw [← HW0.out]
  by_cases hlo : r < 0
  · have HL : Hid (false = labB (op, (z, os), fs, r)) := (labB_lo (x := (op, (z, os), fs, r)) hlo).symm
    go_wp2_with fail
    go_ret
    exact ⟨ret_bool HL.out, T0⟩
  by_cases hhi : 9999 < r
  · have HL : Hid (false = labB (op, (z, os), fs, r)) := (labB_hi (x := (op, (z, os), fs, r)) hhi).symm
    go_wp2_with fail
    go_ret
    exact ⟨ret_bool HL.out, T0⟩
  rcases op with _ | _
  · have HL : Hid (labB (false, (z, os), fs, r) = (decide (z = 0) && decide (k = 0) && decide (n = 0))) := by
      show _ = _
      rw [← HLK.out, ← HLN.out]
      exact labB_shut (x := (false, (z, os), fs, r)) (by show 0 ≤ r; omega) (by show r ≤ 9999; omega) rfl
    obtain ⟨b1, HB1⟩ : ∃ b, Hid (decide (z = 0) = b) := ⟨_, rfl⟩
    obtain ⟨b2, HB2⟩ : ∃ b, Hid (decide (k = 0) = b) := ⟨_, rfl⟩
    obtain ⟨b3, HB3⟩ : ∃ b, Hid (decide (n = 0) = b) := ⟨_, rfl⟩
    have e1 : (z == 0) = b1 := by rw [← HB1.out, Bool.eq_iff_iff, beq_iff_eq, decide_eq_true_iff]
    have e2 : ((k : Int) == 0) = b2 := eq0_nat HB2.out
    have e3 : ((n : Int) == 0) = b3 := eq0_nat HB3.out
    have HRES : Hid ((b1 && b2 && b3) = labB (false, (z, os), fs, r)) := by show _ = _; rw [HL.out, HB1.out, HB2.out, HB3.out]
    rcases b1 with _ | _ <;> rcases b2 with _ | _ <;> rcases b3 with _ | _
    all_goals
      go_wp2_with fail
      go_ret
      exact ⟨ret_bool HRES.out, T0⟩
  · have HL : Hid (labB (true, (z, os), fs, r) = (algB (z, os) && decide (n ≤ 12) && goFs (z, os) [] fs)) := by
      show _ = _
      rw [← HLN.out]
      exact labB_open (x := (true, (z, os), fs, r)) (by show 0 ≤ r; omega) (by show r ≤ 9999; omega) rfl
    have HA := Lib.hid (isAlgebra_any _ (z, os) w0 (H1.out _ (Below.refl _ _)))
    obtain ⟨ab, HAB⟩ : ∃ b, Hid (algB (z, os) = b) := ⟨_, rfl⟩
    rw [HAB.out] at HA
    have HLA : Hid ((ab && decide (n ≤ 12) && goFs (z, os) [] fs) = labB (true, (z, os), fs, r)) := by show _ = _; rw [HL.out, HAB.out]
    go_wp2_with fail
    refine HA.out.mono ?_
    rintro e w1 ⟨rfl, hb1⟩
    have kP0 := keepc hb1 cP0
    have kP1 := keepc hb1 cP1
    have kP2 := keepc hb1 cP2
    have kP3 := keepc hb1 cP3
    have T1 := below_next T0 hb1 rfl
    rcases ab with _ | _
    · go_wp2_with fail
      go_ret
      exact ⟨ret_bool HLA.out, T1⟩
    by_cases h12 : n ≤ 12
    case neg =>
      have hgt : (12 : Int) < (n : Int) := by omega
      have HRES : Hid (false = labB (true, (z, os), fs, r)) := by show _ = _; rw [← HLA.out, decide_eq_false h12]; rfl
      go_wp2_with fail
      go_ret
      exact ⟨ret_bool HRES.out, T1⟩
    have hgt : ¬ (12 : Int) < (n : Int) := by omega
    have HRES : Hid (goFs (z, os) [] fs = labB (true, (z, os), fs, r)) := by show _ = _; rw [← HLA.out, decide_eq_true h12]; rfl
    go_wp2_with fail
    go_loopw [46] (fun i wr => ∃ j : Nat, j ≤ n ∧ i = .int .i64 j ∧ Hid (FsAt (z, os) fs j) ∧ Below w0.heap.size w0 wr) (fun i _ => n - (intOf i).toNat)
    case atStart => exact ⟨0, Nat.zero_le _, rfl, FsAt.zero _ _, hb1⟩
    case round =>
      obtain ⟨j, hj, rfl, HF, hTr⟩ := hrel
      by_cases hlt : j < n
      · have hk0 : (0 : Int) ≤ (j : Int) := by omega
        have hk1 : (j : Int) < (n : Int) := by omega
        obtain ⟨b, o, vs, g, rfl, -, hc, hrr, hd, -⟩ := (HQF.out.next hTr).at hlt
        have hrg := hrr
        obtain ⟨BL, mL, eL, BR, mR, eR, BV, mV, eV, rfl, -, -, -, -⟩ := rdFact hrr
        have cc0 : wr.cell? ⟨b, o + j * 4, none⟩ = some (.int .i64 g.1) := hc 0 _ rfl
        have cc1 : wr.cell? ⟨b, o + j * 4 + 1, none⟩ = some (.slice BL mL eL) := hc 1 _ rfl
        have cc2 : wr.cell? ⟨b, o + j * 4 + 2, none⟩ = some (.slice BR mR eR) := hc 2 _ rfl
        have cc3 : wr.cell? ⟨b, o + j * 4 + 3, none⟩ = some (.slice BV mV eV) := hc 3 _ rfl
        have HD := Lib.hid hd
        obtain ⟨w2, hw2, T2, hsz2, BX⟩ := boxes1 wr #[.int .i64 g.1, .slice BL mL eL, .slice BR mR eR, .slice BV mV eV] 57
        have HW2 := Lib.hid hw2
        have T02 := below_next hTr T2 rfl
        have Hg : Hid (∀ wz, Below w2.heap.size w2 wz → shFact.rd wz [.int .i64 g.1, .slice BL mL eL, .slice BR mR eR, .slice BV mV eV] g) := fun wz hz => shFact.stab (shFact.stab hrg T2.block) hz.block
        obtain ⟨tb, HTB⟩ : ∃ b, Hid (trueB (z, os) g = b) := ⟨_, rfl⟩
        obtain ⟨p, HP⟩ : ∃ p, Hid (posF (fs.take j) g = p) := ⟨_, rfl⟩
        have HI : Hid (∀ wz, Below w2.heap.size w2 wz → Calls Tryz.prog 75 #[.agg #[.int .i64 z, .slice B k d], .agg #[.int .i64 g.1, .slice BL mL eL, .slice BR mR eR, .slice BV mV eV]] wz (Bl wz (.bool tb))) := fun wz hz => by
          have := HIF.out _ _ (z, os) g wz (H1.out _ (below_next T02 hz rfl)) (Hg.out _ hz) HAB.out
          rwa [HTB.out] at this
        have HX : Hid (∀ wz, Below w2.heap.size w2 wz → Calls Tryz.prog 76 #[.slice (some ⟨b, o, none⟩) j c, .agg #[.int .i64 g.1, .slice BL mL eL, .slice BR mR eR, .slice BV mV eV]] wz (Bl wz (.int .i64 p))) := fun wz hz => by
          have := factIndex_any (some ⟨b, o, none⟩) j c _ (fs.take j) g wz ((HQF.out.next (below_next T02 hz rfl)).take (by omega)) (Hg.out _ hz)
          rwa [HP.out] at this
        have dP1 := keepc T02 cP1
        have dP2 := keepc T02 cP2
        have dP3 := keepc T02 cP3
        have cX0 := BX.cell 0
        have cX1 := BX.cell 1
        have cX2 := BX.cell 2
        have cX3 := BX.cell 3
        simp at cX0 cX1 cX2 cX3
        have hjc : j ≤ c := by omega
        clear hc hrr hrg hd hw2 hsz2
        go_upto_region 10 with fail
        rw [← HW2.out]
        have Tk : Below w2.heap.size w2 w2 := Below.refl _ _
        have HM : Hid (memF (fs.take j) g = decide (0 ≤ p)) := by show _ = _; unfold memF; rw [HP.out]
        rcases tb with _ | _
        · have HO : Hid (false = labB (true, (z, os), fs, r)) := (HF.out.stop1 HD.out HTB.out).trans HRES.out
          first | (go_region_law (first
            | (go_simp; go_at_call 75; (with_reducible refine (HI.out _ ?_).mono ?_); (first | exact Tk | exact Below.drew Tk | exact below_drewN (Below.refl _ _) _ | exact below_drewN Tk _); rintro e1 wn ⟨rfl, hbn⟩; replace Tk := below_next (by first | exact Tk | exact Below.drew Tk | exact below_drewN (Below.refl _ _) _ | exact below_drewN Tk _) hbn rfl; have xP1 := keepc Tk dP1; have xP2 := keepc Tk dP2; have xP3 := keepc Tk dP3; have x0 := keepc Tk cX0; have x1 := keepc Tk cX1; have x2 := keepc Tk cX2; have x3 := keepc Tk cX3))) | fail
          all_goals
            go_wp2_with fail
            go_ret
            exact ⟨ret_bool HO.out, below_next T0 (below_next T02 (by first | exact Tk | exact Below.drew Tk) rfl) rfl⟩
        · by_cases hp : 0 ≤ p
          · first | (go_region_law (first
                | (go_simp; go_at_call 75; (with_reducible refine (HI.out _ ?_).mono ?_); (first | exact Tk | exact Below.drew Tk | exact below_drewN (Below.refl _ _) _ | exact below_drewN Tk _); rintro e1 wn ⟨rfl, hbn⟩; replace Tk := below_next (by first | exact Tk | exact Below.drew Tk | exact below_drewN (Below.refl _ _) _ | exact below_drewN Tk _) hbn rfl; have xP1 := keepc Tk dP1; have xP2 := keepc Tk dP2; have xP3 := keepc Tk dP3; have x0 := keepc Tk cX0; have x1 := keepc Tk cX1; have x2 := keepc Tk cX2; have x3 := keepc Tk cX3)
                | (go_simp; go_at_call 76; (with_reducible refine (HX.out _ ?_).mono ?_); (first | exact Tk | exact Below.drew Tk | exact below_drewN (Below.refl _ _) _ | exact below_drewN Tk _); rintro e1 wn ⟨rfl, hbn⟩; replace Tk := below_next (by first | exact Tk | exact Below.drew Tk | exact below_drewN (Below.refl _ _) _ | exact below_drewN Tk _) hbn rfl; have xP1 := keepc Tk dP1; have xP2 := keepc Tk dP2; have xP3 := keepc Tk dP3; have x0 := keepc Tk cX0; have x1 := keepc Tk cX1; have x2 := keepc Tk cX2; have x3 := keepc Tk cX3))) | fail
            all_goals
              go_wp2_with fail
              go_ret
              exact ⟨ret_bool ((HF.out.stop2 HD.out (by rw [HM.out, decide_eq_true hp])).trans HRES.out), below_next T0 (below_next T02 (by first | exact Tk | exact Below.drew Tk) rfl) rfl⟩
          · first | (go_region_law (first
                | (go_simp; go_at_call 75; (with_reducible refine (HI.out _ ?_).mono ?_); (first | exact Tk | exact Below.drew Tk | exact below_drewN (Below.refl _ _) _ | exact below_drewN Tk _); rintro e1 wn ⟨rfl, hbn⟩; replace Tk := below_next (by first | exact Tk | exact Below.drew Tk | exact below_drewN (Below.refl _ _) _ | exact below_drewN Tk _) hbn rfl; have xP1 := keepc Tk dP1; have xP2 := keepc Tk dP2; have xP3 := keepc Tk dP3; have x0 := keepc Tk cX0; have x1 := keepc Tk cX1; have x2 := keepc Tk cX2; have x3 := keepc Tk cX3)
                | (go_simp; go_at_call 76; (with_reducible refine (HX.out _ ?_).mono ?_); (first | exact Tk | exact Below.drew Tk | exact below_drewN (Below.refl _ _) _ | exact below_drewN Tk _); rintro e1 wn ⟨rfl, hbn⟩; replace Tk := below_next (by first | exact Tk | exact Below.drew Tk | exact below_drewN (Below.refl _ _) _ | exact below_drewN Tk _) hbn rfl; have xP1 := keepc Tk dP1; have xP2 := keepc Tk dP2; have xP3 := keepc Tk dP3; have x0 := keepc Tk cX0; have x1 := keepc Tk cX1; have x2 := keepc Tk cX2; have x3 := keepc Tk cX3))) | fail
            all_goals
              have HF2 := Lib.hid (HF.out.step HD.out HTB.out (by rw [HM.out, decide_eq_false hp]))
              have T3 := below_next T02 (by first | exact Tk | exact Below.drew Tk) rfl
              go_wp2_with fail
              go_roundw
              case rel => exact ⟨j + 1, by omega, by go_num, HF2, T3⟩
              case measure => simp [intOf]; try omega
      · have hk1 : ¬ (j : Int) < (n : Int) := by omega
        have HE : Hid (fs.drop j = []) := List.drop_eq_nil_of_le (by rw [HLN.out]; omega)
        go_wp2_with fail
        go_ret
        exact ⟨ret_bool ((HF.out.done HE.out).trans HRES.out), below_next T0 hTr rfl⟩
end Go.Proofs.YtfnmkbpogbekpaaGreatDoor
namespace Go.Proofs.YtfnmkbpogbekpaaGreatDoor
open Go.RowKit
set_option linter.unusedVariables false
set_option linter.unusedSimpArgs false

theorem labB_many {x : LabM} (h : ¬ x.2.2.1.length ≤ 12) : labB x = false := by
  unfold labB
  split
  · rw [decide_eq_false h, Bool.and_false, Bool.false_and, Bool.and_false]
  · rw [decide_eq_false (show ¬ x.2.2.1.length = 0 by omega), Bool.and_false, Bool.and_false]
end Go.Proofs.YtfnmkbpogbekpaaGreatDoor
namespace Go.Proofs.YtfnmkbpogbekpaaGreatDoor
open Go.RowKit
set_option linter.unusedVariables false

/-- The elements that tell blocks, in the world. -/
noncomputable def fixW (w : World) (g n : Nat) : Nat := (List.range n).countP fun i => tt (w.cell? ⟨g, i, none⟩ = some (.int .i64 (i : Int)))
def flgV : Value → Nat | .bool true => 1 | _ => 0
theorem fixW_row {w : World} {base g n c : Nat} {p : List Int} (h : w.ownsRow base 3 1 (.slice (some ⟨g, 0, none⟩) n c) n (ints p)) (hp : ParP n p) : fixW w g n = fixs n p := by
  unfold fixW fixs
  rw [← List.countP_eq_length_filter]
  refine List.countP_congr fun i hi => ?_
  have hin := List.mem_range.1 hi
  rw [par_cell h (hp.at hin).1 hin, tt_iff, beq_iff_eq]
  constructor
  · intro e
    injection e with e
    injection e with _ e
    omega
  · intro e
    rw [e]
/-- Held together so far: of the operations below j, of the digits below k of the next one (from the right), of its entries below q at the next digit. -/
def PdD (n : Nat) (ops : List OpM) (p : List Int) (j k q : Nat) : Prop := (∀ j', j' < j → ∀ o, ops[j']? = some o → ∀ k', k' < o.1.toNat → ∀ i, i < o.2.length → PrE n p o i (o.1.toNat - 1 - k')) ∧ (∀ o, ops[j]? = some o → (∀ k', k' < k → k' < o.1.toNat → ∀ i, i < o.2.length → PrE n p o i (o.1.toNat - 1 - k')) ∧ (k < o.1.toNat → ∀ i, i < q → i < o.2.length → PrE n p o i (o.1.toNat - 1 - k)))
theorem PdD.start (n : Nat) (ops : List OpM) (p : List Int) : PdD n ops p 0 0 0 := ⟨fun j' h => absurd h (by omega), fun o _ => ⟨fun k' h => absurd h (by omega), fun _ i h => absurd h (by omega)⟩⟩
theorem PdD.entry {n : Nat} {ops : List OpM} {p : List Int} {j k q : Nat} {o : OpM} (h : PdD n ops p j k q) (ho : ops[j]? = some o) (he : PrE n p o q (o.1.toNat - 1 - k)) : PdD n ops p j k (q + 1) := ⟨h.1, fun o' ho' => by
  rw [ho] at ho'
  injection ho' with ho'
  subst ho'
  refine ⟨(h.2 _ ho).1, fun hk i hi hil => ?_⟩
  by_cases e : i = q
  · subst e; exact he
  · exact (h.2 _ ho).2 hk i (by omega) hil⟩
theorem PdD.digit {n : Nat} {ops : List OpM} {p : List Int} {j k q : Nat} {o : OpM} (h : PdD n ops p j k q) (ho : ops[j]? = some o) (hq : ¬ q < o.2.length) : PdD n ops p j (k + 1) 0 := ⟨h.1, fun o' ho' => by
  rw [ho] at ho'
  injection ho' with ho'
  subst ho'
  refine ⟨fun k' hk' hka i hi => ?_, fun _ i hi => absurd hi (by omega)⟩
  by_cases e : k' = k
  · subst e; exact (h.2 _ ho).2 hka i (by omega) hi
  · exact (h.2 _ ho).1 k' (by omega) hka i hi⟩
theorem PdD.op {n : Nat} {ops : List OpM} {p : List Int} {j k q : Nat} {o : OpM} (h : PdD n ops p j k q) (ho : ops[j]? = some o) (hk : ¬ k < o.1.toNat) : PdD n ops p (j + 1) 0 0 := ⟨fun j' hj' o' ho' k' hk' i hi => by
  by_cases e : j' = j
  · subst e
    rw [ho] at ho'
    injection ho' with ho'
    subst ho'
    exact (h.2 _ ho).1 k' (by omega) hk' i hi
  · exact h.1 j' (by omega) o' ho' k' hk' i hi, fun o' _ => ⟨fun k' h => absurd h (by omega), fun _ i h => absurd h (by omega)⟩⟩
theorem PdD.done {n : Nat} {ops : List OpM} {p : List Int} {j k q : Nat} (h : PdD n ops p j k q) (hj : ¬ j < ops.length) : CompP n ops p := fun o ho d hd i hi => by
  obtain ⟨j', hj'⟩ := List.getElem?_of_mem ho
  have := (List.getElem?_eq_some_iff.1 hj').1
  have := h.1 j' (by omega) o hj' (o.1.toNat - 1 - d) (by omega) i hi
  rwa [show o.1.toNat - 1 - (o.1.toNat - 1 - d) = d by omega] at this
/-- The rounds: P0 the partition handed in, Ps that of the round's beginning, P now. -/
structure CgI (n : Nat) (ops : List OpM) (p0 ps p : List Int) (was ch : Bool) (j k q : Nat) : Prop where
  par : ParP n p
  yes : was = true → ¬ CompP n ops p0
  no : was = false → p = p0 ∧ ch = false ∧ PdD n ops p0 j k q
  less : ch = true → fixs n p < fixs n ps
  same : ch = false → p = ps
theorem CgI.mv {n : Nat} {ops : List OpM} {p0 ps p : List Int} {was ch : Bool} {j k q j' k' q' : Nat} (h : CgI n ops p0 ps p was ch j k q) (hd : PdD n ops p0 j k q → PdD n ops p0 j' k' q') : CgI n ops p0 ps p was ch j' k' q' := ⟨h.par, h.yes, fun hw => ⟨(h.no hw).1, (h.no hw).2.1, hd (h.no hw).2.2⟩, h.less, h.same⟩
/-- Two elements that must be held together, and are not: put together. -/
theorem CgI.join {n : Nat} {ops : List OpM} {p0 ps p : List Int} {was ch : Bool} {j k q x y : Nat} {o : OpM} (h : CgI n ops p0 ps p was ch j k q) (ho : ops[j]? = some o) (hk : k < o.1.toNat) (hq : q < o.2.length) (hx : nmAt o.2 q = x) (hy : nmAt o.2 (repI n o.1.toNat p q (o.1.toNat - 1 - k)) = y) (hxn : x < n) (hyn : y < n) (hne : nmAt p x ≠ nmAt p y) : CgI n ops p0 ps (uniL p x y) true true j k (q + 1) := by
  refine ⟨uni_par h.par hxn hyn, fun _ hc => ?_, fun h => (by cases h), fun _ => ?_, fun h => (by cases h)⟩
  · rcases was with _ | _
    · have hp := (h.no rfl).1
      subst hp
      have := hc o (List.mem_of_getElem? ho) (o.1.toNat - 1 - k) (by omega) q hq
      unfold PrE at this
      rw [hx, hy] at this
      exact hne this
    · exact h.yes rfl hc
  · have h1 := uni_fixs h.par hxn hyn hne
    rcases ch with _ | _
    · rw [← h.same rfl]; exact h1
    · have := h.less rfl; omega
theorem CgI.keep {n : Nat} {ops : List OpM} {p0 ps p : List Int} {was ch : Bool} {j k q x y : Nat} {o : OpM} (h : CgI n ops p0 ps p was ch j k q) (ho : ops[j]? = some o) (hx : nmAt o.2 q = x) (hy : nmAt o.2 (repI n o.1.toNat p q (o.1.toNat - 1 - k)) = y) (he : nmAt p x = nmAt p y) : CgI n ops p0 ps (uniL p x y) was ch j k (q + 1) := by
  rw [uni_same he]
  refine ⟨h.par, h.yes, fun hw => ⟨(h.no hw).1, (h.no hw).2.1, (h.no hw).2.2.entry ho ?_⟩, h.less, h.same⟩
  have hp := (h.no hw).1
  subst hp
  unfold PrE
  rw [hx, hy, he]
theorem CgI.begin_ {n : Nat} {ops : List OpM} {p0 p : List Int} {was : Bool} (hp : ParP n p) (hy : was = true → ¬ CompP n ops p0) (hn : was = false → p = p0) : CgI n ops p0 p p was false 0 0 0 := ⟨hp, hy, fun hw => ⟨hn hw, rfl, PdD.start _ _ _⟩, fun h => (by cases h), fun _ => rfl⟩
set_option maxRecDepth 20000 in
set_option maxHeartbeats 8000000 in
theorem closePartition_any (cs : List Value) (x : AlgebraM) (g n c base : Nat) (p0 : List Int) (wa w : World) (h : shAlgebra.rd wa cs x) (hx : AlgP x) (hn : x.1 = (n : Int)) (hT : Below wa.heap.size wa w) (hba : wa.heap.size ≤ base) (hown : w.ownsRow base 3 1 (.slice (some ⟨g, 0, none⟩) n c) n (ints p0)) (hp0 : ParP n p0) :
    Calls Tryz.prog 177 #[.agg cs.toArray, .slice (some ⟨g, 0, none⟩) n c] w fun e w' => e = .returned (.bool (!(tt (CompP n x.2 p0)))) ∧ w.grownBy w' (some g) := by
  obtain ⟨a, ops⟩ := x
  obtain ⟨hx1, hx2, hx3, hx4⟩ := hx
  simp only at hx1 hx2 hx3 hx4 hn
  subst hn
  rw [Int.toNat_natCast] at hx4
  have hn0 : 0 < n := by omega
  have hn8 : n ≤ 8 := by omega
  obtain ⟨B, m, d, rfl, -, qo⟩ := rdAlgebra h
  have HML := Lib.hid qo.len
  have HOPS := Lib.hid hx4
  have hm4 : m ≤ 4 := by rw [← qo.len]; exact hx3
  have hgl := hown.lt g rfl
  obtain ⟨w0, hw0, T0, hsz0, BP⟩ := boxes1 w #[.int .i64 (n : Int), .slice B m d] 24
  have HW0 := Lib.hid hw0
  have hown0 := own_next hown T0
  have HB := Lib.hid hba
  have hgw : (some w.heap.size) ≠ some g := fun e => by injection e with e; omega
  have HT0 : Hid (w.grownBy w0 (some g)) := gk_of T0
  have HTA : Hid (∀ wz, w0.grownBy wz (some g) → Below wa.heap.size wa wz) := fun wz hz => (below_next hT T0 rfl).grown hz (Nat.le_trans hT.size T0.size) fun k hk => by injection hk with hk; subst hk; exact Nat.le_trans hba hgl.1
  have HBP : Hid (∀ wz, w0.grownBy wz (some g) → wz.cell? ⟨w.heap.size, 0, none⟩ = some (.int .i64 (n : Int)) ∧ wz.cell? ⟨w.heap.size, 1, none⟩ = some (.slice B m d)) := fun wz hz => by
    have := BP.grown hz hgw
    have h0 := this.cell 0
    have h1 := this.cell 1
    simp at h0 h1
    exact ⟨h0, h1⟩
  have HP0 := Lib.hid hp0
  clear hw0 hsz0 hown hx3 hx4 h hT hba hp0
  go_enter Tryz.func177, Tryz.ntmps177
  go_upto_region 1 with fail
  rw [← HW0.out]
  go_wp2_with fail
  go_loopw [5, 6] (fun s1 s2 wr => ∃ (p : List Int) (was ch : Bool), s1 = .bool was ∧ s2 = .bool ch ∧ Hid (ParP n p) ∧ Hid (was = true → ¬ CompP n ops p0) ∧ Hid (was = false → p = p0 ∧ (ch = false → CompP n ops p0)) ∧ wr.ownsRow base 3 1 (.slice (some ⟨g, 0, none⟩) n c) n (ints p) ∧ w0.grownBy wr (some g)) (fun _ s2 wr => 2 * fixW wr g n + flgV s2)
  case atStart =>
    have h1 : Hid (false = true → ¬ CompP n ops p0) := fun h => (by cases h)
    have h2 : Hid (false = false → p0 = p0 ∧ (true = false → CompP n ops p0)) := fun _ => ⟨rfl, fun h => (by cases h)⟩
    exact ⟨p0, false, true, rfl, rfl, HP0, h1, h2, hown0, gk_refl _ _⟩
  case round =>
    clear hown0
    obtain ⟨ps, was, ch, rfl, rfl, HP, HY, HN, hown, hG⟩ := hrel
    have HMS : Hid (fixW wr g n = fixs n ps) := fixW_row hown HP.out
    rcases ch with _ | _
    · have HD : Hid (was = !(tt (CompP n ops p0))) := by
        show _ = _
        rcases was with _ | _
        · rw [← tt_true ((HN.out rfl).2 rfl)]; rfl
        · rw [← tt_false (HY.out rfl)]; rfl
      go_wp2_with fail
      go_ret
      exact ⟨ret_bool (by rw [← HD.out]), gk_trans HT0.out hG⟩
    · have kP1 := (HBP.out _ hG).2
      have HI0 : Hid (CgI n ops p0 ps ps was false 0 0 0) := CgI.begin_ HP.out HY.out fun h => (HN.out h).1
      obtain ⟨ws, HWS⟩ : ∃ ws : World, ws = wr := ⟨_, rfl⟩
      subst HWS
      clear HP HY HN
      go_wp2_with fail
      clear kP1
      go_loopw [5, 6, 18] (fun s1 s2 i wr => ∃ (j : Nat) (p : List Int) (was ch : Bool), j ≤ m ∧ i = .int .i64 j ∧ s1 = .bool was ∧ s2 = .bool ch ∧ Hid (CgI n ops p0 ps p was ch j 0 0) ∧ wr.ownsRow base 3 1 (.slice (some ⟨g, 0, none⟩) n c) n (ints p) ∧ w0.grownBy wr (some g)) (fun _ _ i _ => m - (intOf i).toNat)
      case atStart => exact ⟨0, ps, was, false, Nat.zero_le _, rfl, rfl, rfl, HI0, hown, hG⟩
      case round =>
        clear hown hG HI0
        obtain ⟨j, p, was, ch, hj, rfl, rfl, rfl, HI, hown, hG⟩ := hrel
        by_cases hlt : j < m
        · have hj0 : (0 : Int) ≤ (j : Int) := by omega
          have hj1 : (j : Int) < (m : Int) := by omega
          obtain ⟨b, o, vs, op, rfl, -, hc, hr, -, hxo⟩ := qo.at hlt
          obtain ⟨B', m', d', rfl, -, qt⟩ := rdOp hr
          have hoP := HOPS.out op (List.mem_of_getElem? hxo)
          obtain ⟨ar, tb, rfl, har⟩ := op_nat hoP
          have HXO := Lib.hid hxo
          have HTL : Hid (m' = n ^ ar) := by show _ = _; rw [← qt.len]; have := hoP.2.2.1; simpa using this
          have HTB : Hid (tb.length = m') := qt.len
          have HTV := Lib.hid hoP.2.2.2
          have cc0' : wr.cell? ⟨b, o + j * 2, none⟩ = some (.int .i64 (ar : Int)) := keepc (HTA.out _ hG) (hc 0 _ rfl)
          have cc1' : wr.cell? ⟨b, o + j * 2 + 1, none⟩ = some (.slice B' m' d') := keepc (HTA.out _ hG) (hc 1 _ rfl)
          have hm512 : m' ≤ 4096 := by rw [HTL.out]; exact pow_bd hn8 (by omega)
          obtain ⟨w1, hw1, T1, hsz1, BX⟩ := boxes1 wr #[.int .i64 (ar : Int), .slice B' m' d'] 122
          have HW1 := Lib.hid hw1
          have hg1 := (hown.lt g rfl)
          have hG1 : w0.grownBy w1 (some g) := gk_trans hG (gk_of T1)
          have hown1 := own_next hown T1
          have hgx : (some wr.heap.size) ≠ some g := fun e => by injection e with e; omega
          have HBX : Hid (∀ wz, w1.grownBy wz (some g) → wz.cell? ⟨wr.heap.size, 0, none⟩ = some (.int .i64 (ar : Int)) ∧ wz.cell? ⟨wr.heap.size, 1, none⟩ = some (.slice B' m' d')) := fun wz hz => by
            have := BX.grown hz hgx
            have h0 := this.cell 0
            have h1 := this.cell 1
            simp at h0 h1
            exact ⟨h0, h1⟩
          clear hc hr hw1 hsz1 hxo hown hoP
          go_wp2_with fail
          rw [← HW1.out]
          clear cc0' cc1'
          go_wp2_with fail
          go_loopw [5, 6, 9, 10] (fun s1 s2 st kk wi => ∃ (k t : Nat) (p : List Int) (was ch : Bool), k ≤ ar ∧ kk = .int .i64 k ∧ st = .int .i64 t ∧ Hid (t = n ^ k) ∧ s1 = .bool was ∧ s2 = .bool ch ∧ Hid (CgI n ops p0 ps p was ch j k 0) ∧ wi.ownsRow base 3 1 (.slice (some ⟨g, 0, none⟩) n c) n (ints p) ∧ w1.grownBy wi (some g)) (fun _ _ _ kk _ => ar - (intOf kk).toNat)
          case atStart => exact ⟨0, 1, p, was, ch, Nat.zero_le _, rfl, rfl, (by show _ = _; rw [Nat.pow_zero]), rfl, rfl, HI, hown1, gk_refl _ _⟩
          case round =>
            clear hown1 HI
            obtain ⟨k, t, p, was, ch, hk, rfl, rfl, HTT, rfl, rfl, HI, hown, hG2⟩ := hrel
            have ht4 : t ≤ 4096 := by rw [HTT.out]; exact pow_bd hn8 (by omega)
            have ht0 : 0 < t := by rw [HTT.out]; exact Nat.pow_pos hn0
            have hG3 : w0.grownBy wr (some g) := gk_trans hG1 hG2
            have kX0 := (HBX.out _ hG2).1
            have kX1 := (HBX.out _ hG2).2
            have kP0 := (HBP.out _ hG3).1
            by_cases hlk : k < ar
            · have hk0 : (0 : Int) ≤ (k : Int) := by omega
              have hk1 : (k : Int) < (ar : Int) := by omega
              go_wp2_with fail
              clear kX0 kX1 kP0
              go_loopw [5, 6, 31] (fun s1 s2 i wi => ∃ (q : Nat) (p : List Int) (was ch : Bool), q ≤ m' ∧ i = .int .i64 q ∧ s1 = .bool was ∧ s2 = .bool ch ∧ Hid (CgI n ops p0 ps p was ch j k q) ∧ wi.ownsRow base 3 1 (.slice (some ⟨g, 0, none⟩) n c) n (ints p) ∧ w1.grownBy wi (some g)) (fun _ _ i _ => m' - (intOf i).toNat)
              case atStart => exact ⟨0, p, was, ch, Nat.zero_le _, rfl, rfl, rfl, HI, hown, hG2⟩
              case round =>
                clear hown HI hG2 hG3
                obtain ⟨q, p, was, ch, hq, rfl, rfl, rfl, HI, hown, hG2⟩ := hrel
                have hG3 : w0.grownBy wr (some g) := gk_trans hG1 hG2
                have kX0 := (HBX.out _ hG2).1
                have kX1 := (HBX.out _ hG2).2
                have kP0 := (HBP.out _ hG3).1
                by_cases hlq : q < m'
                · have hq0 : (0 : Int) ≤ (q : Int) := by omega
                  have hq1 : (q : Int) < (m' : Int) := by omega
                  obtain ⟨b3, o3, u3, v, rfl, hc3, ⟨rfl, -, -⟩, -, hxv⟩ := (qt.next stab_RI (HTA.out _ hG3)).at hlq
                  have hvi := HTV.out v (List.mem_of_getElem? hxv)
                  obtain ⟨y1, rfl⟩ := Int.eq_ofNat_of_zero_le hvi.1
                  have hy1n : y1 < n := by omega
                  have HY1 : Hid (nmAt tb q = y1) := by show _ = _; rw [nmAt_get hxv]; simp
                  obtain ⟨D, HD⟩ : ∃ D, Hid (q / t = D) := ⟨_, rfl⟩
                  obtain ⟨X, HX⟩ : ∃ X, Hid (D % n = X) := ⟨_, rfl⟩
                  have hXn : X < n := by rw [← HX.out]; exact Nat.mod_lt _ hn0
                  have hDq : D ≤ 4096 := by rw [← HD.out]; exact Nat.le_trans (Nat.div_le_self _ _) (by omega)
                  have hpX := HI.out.par.at hXn
                  obtain ⟨pX, HPX⟩ : ∃ z, Hid (nmAt p X = z) := ⟨_, rfl⟩
                  rw [HPX.out] at hpX
                  have hcX := par_cell hown hpX.1 hXn
                  obtain ⟨RP, HRP⟩ : ∃ z, Hid (repI n ar p q (ar - 1 - k) = z) := ⟨_, rfl⟩
                  have hRPm : RP < m' := by rw [← HRP.out, HTL.out]; exact repI_lt hn0 HI.out.par
                  have hrep := rep_prog (k := ar) (q := k) (i := q) (p := p) hn0 hlk (by rw [← HTL.out]; exact hlq)
                  rw [HRP.out, ← HTT.out, HD.out, HX.out, HPX.out] at hrep
                  obtain ⟨u4, v4, hc4, ⟨rfl, -, -⟩, -, hxv4⟩ := (qt.next stab_RI (HTA.out _ hG3)).at' hRPm
                  have hvi4 := HTV.out v4 (List.mem_of_getElem? hxv4)
                  obtain ⟨y2, rfl⟩ := Int.eq_ofNat_of_zero_le hvi4.1
                  have hy2n : y2 < n := by omega
                  have HY2 : Hid (nmAt tb (repI n ar p q (ar - 1 - k)) = y2) := by show _ = _; rw [HRP.out, nmAt_get hxv4]; simp
                  have htz : ¬ (t : Int) = 0 := by omega
                  have hnz : ¬ (n : Int) = 0 := by omega
                  have f1 : (q : Int) / (t : Int) = (D : Int) := by rw [← HD.out]; simp
                  have f2 : (q : Int).tdiv (t : Int) = (D : Int) := by rw [← HD.out]; exact Int.ofNat_tdiv q t ▸ rfl
                  have f3 : IntKind.i64.wrap (D : Int) = (D : Int) := by rw [IntKind.wrap_i64]; omega
                  have f4 : (D : Int).tmod (n : Int) = (X : Int) := by rw [← HX.out]; rfl
                  have f5 : (D : Int) % (n : Int) = (X : Int) := by rw [← HX.out]; simp
                  have hX0 : (0 : Int) ≤ (X : Int) := by omega
                  have hX1 : (X : Int) < (n : Int) := by omega
                  have hR0 : (0 : Int) ≤ (RP : Int) := by omega
                  have hR1 : (RP : Int) < (m' : Int) := by omega
                  have er : (q : Int) + ((pX : Int) - (X : Int)) * (t : Int) = (RP : Int) := hrep.symm
                  have ew1 : IntKind.i64.wrap ((pX : Int) - (X : Int)) = (pX : Int) - (X : Int) := by rw [IntKind.wrap_i64]; omega
                  have ew2 : IntKind.i64.wrap (((pX : Int) - (X : Int)) * (t : Int)) = ((pX : Int) - (X : Int)) * (t : Int) := by
                    have e1 : ((pX : Int) - (X : Int)) * (t : Int) = (RP : Int) - (q : Int) := by omega
                    rw [e1, IntKind.wrap_i64]
                    omega
                  have ew3 : IntKind.i64.wrap (RP : Int) = (RP : Int) := by rw [IntKind.wrap_i64]; omega
                  have HU := Lib.hid fun (wz : World) (ho : wz.ownsRow base 3 1 (.slice (some ⟨g, 0, none⟩) n c) n (ints p)) => unite_any g n c base p y1 y2 wz ho HI.out.par hy1n hy2n (by omega)
                  clear hxv hvi hxv4 hvi4 hrep hpX
                  go_wp2_with fail
                  go_quiet (fail)
                  go_wp2_with fail
                  clear f1 f2 f4 f5
                  go_region_law (first
                    | (go_simp; go_at_call 193; (with_reducible refine (HU.out _ ?_).mono ?_); (exact hown); rintro e wu ⟨rfl, hou, hgu⟩))
                  all_goals
                    have hG4 : w1.grownBy wu (some g) := (by first | exact gk_trans hG2 hgu | exact gk_trans (gk_drewN hG2 _) hgu)
                    have HOU := Lib.hid hou
                    clear hou hgu
                    by_cases heq : nmAt p y1 = nmAt p y2
                    · have HI2 : Hid (CgI n ops p0 ps (uniL p y1 y2) was ch j k (q + 1)) := HI.out.keep HXO.out HY1.out (by simpa using HY2.out) heq
                      have hd : decide (nmAt p y1 = nmAt p y2) = true := decide_eq_true heq
                      rw [hd]
                      clear heq hd
                      go_wp2_with fail
                      go_roundw
                      case rel => exact ⟨q + 1, _, was, ch, by omega, by go_num, rfl, rfl, HI2, HOU.out, hG4⟩
                      case measure => simp [intOf]; try omega
                    · have HI2 : Hid (CgI n ops p0 ps (uniL p y1 y2) true true j k (q + 1)) := HI.out.join HXO.out (by simpa using hlk) (by have := HTB.out; simp only; omega) HY1.out (by simpa using HY2.out) hy1n hy2n heq
                      have hd : decide (nmAt p y1 = nmAt p y2) = false := decide_eq_false heq
                      rw [hd]
                      clear heq hd
                      go_wp2_with fail
                      go_roundw
                      case rel => exact ⟨q + 1, _, true, true, by omega, by go_num, rfl, rfl, HI2, HOU.out, hG4⟩
                      case measure => simp [intOf]; try omega
                · have hq1 : ¬ (q : Int) < (m' : Int) := by omega
                  have HI2 : Hid (CgI n ops p0 ps p was ch j (k + 1) 0) := HI.out.mv fun h => h.digit HXO.out (by have := HTB.out; simp only; omega)
                  have hM : t * n ≤ 4096 * 8 := Nat.mul_le_mul ht4 hn8
                  have hm0 : (0 : Int) ≤ (t : Int) * (n : Int) := by rw [← Int.natCast_mul]; omega
                  have hm1 : (t : Int) * (n : Int) ≤ 32768 := by rw [← Int.natCast_mul]; omega
                  have HE : Hid ((t : Int) * (n : Int) = ((t * n : Nat) : Int)) := (Int.natCast_mul _ _).symm
                  have HT2 : Hid (t * n = n ^ (k + 1)) := by show _ = _; rw [HTT.out, Nat.pow_succ]
                  clear hM kX1
                  go_wp2_with fail
                  go_roundw
                  case rel => exact ⟨k + 1, t * n, p, was, ch, by omega, by go_num, by rw [HE.out], HT2, rfl, rfl, HI2, hown, hG2⟩
                  case measure => simp [intOf]; try omega
            · have hk1 : ¬ (k : Int) < (ar : Int) := by omega
              have HI2 : Hid (CgI n ops p0 ps p was ch (j + 1) 0 0) := HI.out.mv fun h => h.op HXO.out (by simp; omega)
              clear kX1 kP0
              go_wp2_with fail
              go_roundw
              case rel => exact ⟨j + 1, p, was, ch, by omega, by go_num, rfl, rfl, HI2, hown, hG3⟩
              case measure => simp [intOf]; try omega
        · have hj1 : ¬ (j : Int) < (m : Int) := by omega
          have HF1 : Hid (was = true → ¬ CompP n ops p0) := HI.out.yes
          have HF2 : Hid (was = false → p = p0 ∧ (ch = false → CompP n ops p0)) := fun h => ⟨(HI.out.no h).1, fun _ => (HI.out.no h).2.2.done (by rw [HML.out]; exact hlt)⟩
          have HPP : Hid (ParP n p) := HI.out.par
          have HMS2 : Hid (fixW wr g n = fixs n p) := fixW_row hown HI.out.par
          go_wp2_with fail
          go_roundw
          case rel => exact ⟨p, was, ch, rfl, rfl, HPP, HF1, HF2, hown, hG⟩
          case measure =>
            show 2 * fixW wr g n + flgV (.bool ch) < 2 * fixW _ g n + flgV (.bool true)
            rw [HMS2.out, HMS.out]
            rcases ch with _ | _
            · rw [HI.out.same rfl]
              show 2 * fixs n ps + 0 < 2 * fixs n ps + 1
              omega
            · have := HI.out.less rfl
              show 2 * fixs n p + 1 < 2 * fixs n ps + 1
              omega
end Go.Proofs.YtfnmkbpogbekpaaGreatDoor
namespace Go.Proofs.YtfnmkbpogbekpaaGreatDoor
open Go.RowKit
set_option linter.unusedVariables false

set_option maxRecDepth 20000 in
set_option maxHeartbeats 4000000 in
theorem isCongruence_any (cs : List Value) (x : AlgebraM) (A : Option Addr) (m c : Nat) (p : List Int) (w : World) (h : shAlgebra.rd w cs x) (hx : AlgP x) (hr : RdL RI w A m p) :
    Calls Tryz.prog 129 #[.agg cs.toArray, .slice A m c] w (Bl w (.bool (congB x.1.toNat x.2 p))) := by
  have hrd := h
  obtain ⟨B, k, d, rfl, -, qo⟩ := rdAlgebra h
  obtain ⟨n, hN⟩ : ∃ n : Nat, x.1 = (n : Int) := ⟨x.1.toNat, by have := hx.1; omega⟩
  have HNN := Lib.hid hN
  have hn8 : n ≤ 8 := by have := hx.2.1; omega
  have hn0 : 0 < n := by have := hx.1; omega
  have HNT : Hid (x.1.toNat = n) := by show _ = _; omega
  obtain ⟨w0, hw0, T0, hsz0, BP⟩ := boxes1 w #[.int .i64 x.1, .slice B k d] 24
  have HW0 := Lib.hid hw0
  have HRD := Lib.hid (shAlgebra.stab hrd T0.block)
  rw [hN] at HW0 BP
  have cP0 := BP.cell 0
  have cP1 := BP.cell 1
  simp at cP0 cP1
  have HX := Lib.hid hx
  have r0 := hr.next stab_RI T0
  have HLN := Lib.hid hr.len
  have HI : Hid (∀ wz, Below w0.heap.size w0 wz → Calls Tryz.prog 176 #[.int .i64 (n : Int), .slice A m c] wz (Qt wz (.bool (tt (ParP n p))))) := fun wz hz => quiet_same (isPartition_any A n m c p wz (r0.next stab_RI hz) (by omega))
  rw [HNT.out]
  rw [hN]
  clear hw0 hsz0 hrd qo h hx hr hN
  rcases hb : tt (ParP n p) with _ | _
  · rw [hb] at HI
    have HR : Hid (congB n x.2 p = false) := by show _ = _; unfold congB; rw [hb]; rfl
    clear hb
    go_enter Tryz.func129, Tryz.ntmps129
    go_upto_region 1 with fail
    rw [← HW0.out]
    go_quiet ((go_at_call 176; first | exact quiet_one (HI.out _ (by first | exact Below.refl _ _ | exact below_drewN (Below.refl _ _) _)) | exact quiet_add (HI.out _ (by first | exact Below.refl _ _ | exact below_drewN (Below.refl _ _) _))))
    go_wp2_with fail
    go_ret
    exact ⟨ret_bool HR.out.symm, (by first | exact T0 | exact below_drewN (T0) _ | exact below_drewN (below_drewN (T0) _) _ | exact below_drewN (below_drewN (below_drewN (T0) _) _) _)⟩
  · rw [hb] at HI
    have hp := tt_iff.1 hb
    have hmn : m = n := by rw [← HLN.out]; exact hp.1
    subst hmn
    have HP := Lib.hid hp
    have HR : Hid (congB m x.2 p = tt (CompP m x.2 p)) := by show _ = _; unfold congB; rw [hb]; rfl
    obtain ⟨cb, HCB⟩ : ∃ z, Hid (tt (CompP m x.2 p) = z) := ⟨_, rfl⟩
    have HCL : Hid (∀ wz, Below w0.heap.size w0 wz → Calls Tryz.prog 137 #[.slice A m c] wz fun e w' => ∃ A' c', e = .returned (.slice A' m c') ∧ w'.ownsRow wz.heap.size 3 1 (.slice A' m c') m (ints p) ∧ Below wz.heap.size wz w') := fun wz hz => clone_any A m c p wz (r0.next stab_RI hz) (by omega)
    have HCP : Hid (∀ (g c2 : Nat) (wz : World), Below w0.heap.size w0 wz → wz.ownsRow w0.heap.size 3 1 (.slice (some ⟨g, 0, none⟩) m c2) m (ints p) → Calls Tryz.prog 177 #[.agg #[.int .i64 (m : Int), .slice B k d], .slice (some ⟨g, 0, none⟩) m c2] wz fun e w' => e = .returned (.bool (!cb)) ∧ wz.grownBy w' (some g)) := fun g c2 wz hz ho => by
      have := closePartition_any _ x g m c2 w0.heap.size p w0 wz HRD.out HX.out HNN.out hz (Nat.le_refl _) ho HP.out
      rw [HNN.out, HCB.out] at this
      exact this
    have Tk : Below w0.heap.size w0 w0 := Below.refl _ _
    clear hb hp
    go_enter Tryz.func129, Tryz.ntmps129
    go_upto_region 1 with fail
    rw [← HW0.out]
    go_region_law (first
      | (go_simp; go_at_call 176; (with_reducible refine (HI.out _ ?_).mono ?_); (first | exact Tk | exact below_drewN Tk _); rintro e wa ⟨rfl, za, rfl⟩)
      | (go_simp; go_at_call 137; (with_reducible refine (HCL.out _ ?_).mono ?_); (first | exact Tk | exact below_drewN Tk _); rintro e wb ⟨A5, c5, rfl, ho5, hb5⟩; replace ho5 := own_mono (base' := w0.heap.size) ho5 (by exact Tk.size); replace Tk := below_next (by first | exact Tk | exact below_drewN Tk _) hb5 rfl; obtain ⟨g5, rfl, -, -⟩ := own_form ho5 hn0; have cQ0 := keepc Tk cP0; have cQ1 := keepc Tk cP1)
      | (go_simp; go_at_call 177; (refine (HCP.out g5 c5 _ ?_ ?_).mono ?_); (first | exact Tk | exact below_drewN Tk _); (exact ho5); rintro e wc ⟨rfl, hgc⟩; replace Tk := Below.grown (by first | exact Tk | exact below_drewN Tk _) hgc (by exact Tk.size) (fun r hr => by injection hr with hr; subst hr; exact (ho5.lt _ rfl).1)))
    all_goals
      go_wp2_with fail
      go_ret
      exact ⟨ret_bool (by rw [HR.out, HCB.out]; try simp), below_next T0 (by first | exact Tk | exact below_drewN Tk _) rfl⟩
end Go.Proofs.YtfnmkbpogbekpaaGreatDoor
namespace Go.Proofs.YtfnmkbpogbekpaaGreatDoor
open Go.RowKit
set_option linter.unusedVariables false

set_option maxRecDepth 20000 in
set_option maxHeartbeats 16000000 in
theorem isTrueOf_any (cs ds : List Value) (x : AlgebraM) (f : FactM) (w : World) (h : shAlgebra.rd w cs x) (h' : shFact.rd w ds f) (hx : AlgP x) :
    Calls Tryz.prog 75 #[.agg cs.toArray, .agg ds.toArray] w (Bl w (.bool (trueB x f))) := by
  have hrd := h
  obtain ⟨B, k, d, rfl, -, qo⟩ := rdAlgebra h
  obtain ⟨AL, nL, cL, AR, nR, cR, AV, nV, cV, rfl, -, rL, rR, rV⟩ := rdFact h'
  obtain ⟨kk, ⟨L, R⟩, V⟩ := f
  simp only at rL rR rV
  obtain ⟨n, hN⟩ : ∃ n : Nat, x.1 = (n : Int) := ⟨x.1.toNat, by have := hx.1; omega⟩
  have HNT : Hid (x.1.toNat = n) := by show _ = _; omega
  have hn8 : n ≤ 8 := by have := hx.2.1; omega
  obtain ⟨w0, hw0, T0, hsz0, BP, BQ⟩ := boxes2 w #[.int .i64 x.1, .slice B k d] #[.int .i64 kk, .slice AL nL cL, .slice AR nR cR, .slice AV nV cV] 24 57
  have HW0 := Lib.hid hw0
  have H1 := shAlgebra.stab hrd T0.block
  have r0L := rL.next stab_RI T0
  have r0R := rR.next stab_RI T0
  have r0V := rV.next stab_RI T0
  have H2 : shIdentity.rd w0 [.slice AL nL cL, .slice AR nR cR] ((L, R) : IdentityM) := mkIdentity r0L r0R
  have hle := r0L.le
  have hle2 := r0R.le
  have hle3 := r0V.le
  have HLL := Lib.hid rL.len
  have HLR := Lib.hid rR.len
  have HLV := Lib.hid rV.len
  have HC1 := Lib.hid (doesHold_any _ _ x (L, R) w0 H1 H2 hx)
  have HC2 := Lib.hid (isCounter_any _ _ x (L, R) AV nV cV V w0 H1 H2 r0V hx)
  have HC3 := Lib.hid (isSub_any _ x AV nV cV V w0 H1 hx r0V)
  have HC4 := Lib.hid (isCongruence_any _ x AV nV cV V w0 H1 hx r0V)
  have HC6 := Lib.hid (isHom_any _ x AV nV cV V w0 H1 hx r0V)
  have HX := Lib.hid hx
  have HRD := Lib.hid H1
  have HRV := Lib.hid r0V
  rw [HNT.out] at HC1 HC2 HC3 HC4 HC6
  rw [hN] at HC1 HC2 HC3 HC4 HC6 BP HW0 HRD
  have cP0 := BP.cell 0
  have cP1 := BP.cell 1
  have cQ0 := BQ.cell 0
  have cQ1 := BQ.cell 1
  have cQ2 := BQ.cell 2
  have cQ3 := BQ.cell 3
  simp at cP0 cP1 cQ0 cQ1 cQ2 cQ3
  obtain ⟨ne, HNE⟩ : ∃ b, Hid ((decide (nL = 0) && decide (nR = 0)) = b) := ⟨_, rfl⟩
  have HNE2 : Hid (noEq (L, R) = ne) := by
    show _ = _
    rw [← HNE.out]
    unfold noEq
    simp only
    rw [HLL.out, HLR.out]
    congr 1 <;> exact decide_eq_decide.2 (by omega)
  have HTB : Hid (trueB x (kk, (L, R), V) = if kk = 1 then holdB n x.2 L R && decide (nV = 0) else if kk = 2 then askB n x.2 L R && failB n x.2 L R V else ne && (if kk = 3 then subB n x.2 V else if kk = 4 then congB n x.2 V else if kk = 5 then genB n x.2 V else if kk = 6 then homB n x.2 V else false)) := by
    show _ = _
    unfold trueB
    simp only
    rw [HNT.out, HNE2.out, HLV.out]
  rw [hN]
  clear hw0 hsz0 hrd qo h h' hx hN H1 H2 rL rR rV r0L r0R r0V
  go_enter Tryz.func75, Tryz.ntmps75
  go_upto_region 1 with fail
  rw [← HW0.out]
  go_cut [5] from 8 to 19 (fun u5 wx => u5 = .bool ne ∧ wx = w0)
  case first =>
    rcases e1 : decide (nL = 0) with _ | _
    · have hd := eq0_nat e1
      have HN0 : Hid (ne = false) := by show _ = _; rw [← HNE.out, e1]; rfl
      clear e1
      go_wp2_with fail
      go_meet
      exact ⟨by rw [HN0.out], rfl⟩
    · have hd := eq0_nat e1
      have HN0 : Hid (ne = decide (nR = 0)) := by show _ = _; rw [← HNE.out, e1]; rfl
      clear e1
      rcases e2 : decide (nR = 0) with _ | _
      all_goals
        have hd2 := eq0_nat e2
        rw [e2] at HN0
        clear e2
        go_wp2_with fail
        go_meet
        exact ⟨by rw [HN0.out], rfl⟩
  case rest =>
    obtain ⟨rfl, hwc⟩ := hcut
    subst hwc
    obtain ⟨w0, HWC⟩ : ∃ wq : World, wq = wc := ⟨_, rfl⟩
    subst HWC
    by_cases h1 : kk = 1
    · subst h1
      obtain ⟨hb, HHB⟩ : ∃ b, Hid (holdB n x.2 L R = b) := ⟨_, rfl⟩
      obtain ⟨ask, HAS⟩ : ∃ b, Hid (askB n x.2 L R = b) := ⟨_, rfl⟩
      have HHA : Hid (ask = false → hb = false) := fun h => by
        rw [← HHB.out]
        unfold holdB
        rw [HAS.out, h]
        rfl
      have HRES : Hid (trueB x (1, (L, R), V) = (hb && decide (nV = 0))) := by show _ = _; rw [HTB.out, if_pos rfl, HHB.out]
      simp only at HC1
      rw [HHB.out, HAS.out] at HC1
      go_wp2_with fail
      refine HC1.out.mono ?_
      rintro e w1 ⟨rfl, hb1⟩
      replace cQ3 := keepc hb1 cQ3
      rcases ask with _ | _
      · have := HHA.out rfl
        subst this
        go_wp2_with fail
        go_ret
        exact ⟨ret_bool (by rw [HRES.out]; rfl), below_next T0 hb1 rfl⟩
      · rcases hb with _ | _
        · go_wp2_with fail
          go_ret
          exact ⟨ret_bool (by rw [HRES.out]; rfl), below_next T0 hb1 rfl⟩
        · rcases e3 : decide (nV = 0) with _ | _
          all_goals
            have hd3 := eq0_nat e3
            rw [e3] at HRES
            clear e3
            go_wp2_with fail
            go_ret
            exact ⟨ret_bool (by rw [HRES.out]; rfl), below_next T0 hb1 rfl⟩
    by_cases h2 : kk = 2
    · subst h2
      have HRES : Hid (trueB x (2, (L, R), V) = (askB n x.2 L R && failB n x.2 L R V)) := by show _ = _; rw [HTB.out, if_neg (by decide), if_pos rfl]
      obtain ⟨b, HB⟩ : ∃ b, Hid ((askB n x.2 L R && failB n x.2 L R V) = b) := ⟨_, rfl⟩
      simp only at HC2
      rw [HB.out] at HC2 HRES
      clear h1
      go_wp2_with fail
      refine HC2.out.mono ?_
      rintro e w1 ⟨rfl, hb1⟩
      go_wp2_with fail
      go_ret
      exact ⟨ret_bool HRES.out.symm, below_next T0 hb1 rfl⟩
    have e1 : (kk == 1) = false := beq_eq_false_iff_ne.2 h1
    have e2 : (kk == 2) = false := beq_eq_false_iff_ne.2 h2
    have HT2 : Hid (trueB x (kk, (L, R), V) = (ne && (if kk = 3 then subB n x.2 V else if kk = 4 then congB n x.2 V else if kk = 5 then genB n x.2 V else if kk = 6 then homB n x.2 V else false))) := by show _ = _; rw [HTB.out, if_neg h1, if_neg h2]
    clear HTB h1 h2 HC1 HC2
    rcases ne with _ | _
    · have HRES : Hid (trueB x (kk, (L, R), V) = false) := by show _ = _; rw [HT2.out]; rfl
      by_cases h3 : kk = 3
      · subst h3
        clear e1 e2
        go_wp2_with fail
        go_ret
        exact ⟨ret_bool HRES.out.symm, T0⟩
      by_cases h4 : kk = 4
      · subst h4
        clear e1 e2 h3
        go_wp2_with fail
        go_ret
        exact ⟨ret_bool HRES.out.symm, T0⟩
      have e3 : (kk == 3) = false := beq_eq_false_iff_ne.2 h3
      have e4 : (kk == 4) = false := beq_eq_false_iff_ne.2 h4
      by_cases h5 : kk = 5
      · subst h5
        clear e1 e2 e3 e4 h3 h4
        go_wp2_with fail
        go_quiet (fail)
        go_wp2_with fail
        go_ret
        exact ⟨ret_bool HRES.out.symm, (by first | exact T0 | exact below_drewN (T0) _ | exact below_drewN (below_drewN (T0) _) _ | exact below_drewN (below_drewN (below_drewN (T0) _) _) _)⟩
      have e5 : (kk == 5) = false := beq_eq_false_iff_ne.2 h5
      by_cases h6 : kk = 6
      · subst h6
        clear e1 e2 e3 e4 e5 h3 h4 h5
        go_wp2_with fail
        go_ret
        exact ⟨ret_bool HRES.out.symm, T0⟩
      have e6 : (kk == 6) = false := beq_eq_false_iff_ne.2 h6
      clear h3 h4 h5 h6
      go_wp2_with fail
      go_ret
      exact ⟨ret_bool HRES.out.symm, T0⟩
    · have HT3 : Hid (trueB x (kk, (L, R), V) = (if kk = 3 then subB n x.2 V else if kk = 4 then congB n x.2 V else if kk = 5 then genB n x.2 V else if kk = 6 then homB n x.2 V else false)) := by show _ = _; rw [HT2.out]; rfl
      by_cases h3 : kk = 3
      · subst h3
        have HRES : Hid (trueB x (3, (L, R), V) = subB n x.2 V) := by show _ = _; rw [HT3.out, if_pos rfl]
        obtain ⟨b, HB⟩ : ∃ b, Hid (subB n x.2 V = b) := ⟨_, rfl⟩
        rw [HB.out] at HC3 HRES
        clear e1 e2
        go_wp2_with fail
        refine HC3.out.mono ?_
        rintro e w1 ⟨rfl, hb1⟩
        go_wp2_with fail
        go_ret
        exact ⟨ret_bool HRES.out.symm, below_next T0 hb1 rfl⟩
      by_cases h4 : kk = 4
      · subst h4
        have HRES : Hid (trueB x (4, (L, R), V) = congB n x.2 V) := by show _ = _; rw [HT3.out, if_neg (by decide), if_pos rfl]
        obtain ⟨b, HB⟩ : ∃ b, Hid (congB n x.2 V = b) := ⟨_, rfl⟩
        rw [HB.out] at HC4 HRES
        clear e1 e2 h3
        go_wp2_with fail
        refine HC4.out.mono ?_
        rintro e w1 ⟨rfl, hb1⟩
        go_wp2_with fail
        go_ret
        exact ⟨ret_bool HRES.out.symm, below_next T0 hb1 rfl⟩
      have e3 : (kk == 3) = false := beq_eq_false_iff_ne.2 h3
      have e4 : (kk == 4) = false := beq_eq_false_iff_ne.2 h4
      by_cases h5 : kk = 5
      · subst h5
        have HRES : Hid (trueB x (5, (L, R), V) = genB n x.2 V) := by show _ = _; rw [HT3.out, if_neg (by decide), if_neg (by decide), if_pos rfl]
        clear e1 e2 e3 e4 h3 h4
        obtain ⟨b1, HB1⟩ : ∃ b, Hid (allIn 0 ((n : Int) - 1) V = b) := ⟨_, rfl⟩
        obtain ⟨b2, HB2⟩ : ∃ b, Hid (risesL V = b) := ⟨_, rfl⟩
        have HGB : Hid (genB n x.2 V = ((b1 && b2) && decide ((genL n x.2 V).length = n))) := by show _ = _; unfold genB; rw [HB1.out, HB2.out]
        have HIN : Hid (∀ wz, Below w0.heap.size w0 wz → Calls Tryz.prog 130 #[.slice AV nV cV, .int .i64 (n : Int)] wz (Qt wz (.bool b1))) := fun wz hz => by
          have := quiet_same (inSize_any AV nV cV V (n : Int) wz (HRV.out.next stab_RI hz))
          rwa [HB1.out] at this
        have HRI : Hid (∀ wz, Below w0.heap.size w0 wz → Calls Tryz.prog 131 #[.slice AV nV cV] wz (Qt wz (.bool b2))) := fun wz hz => by
          have := rises_any AV nV cV V wz (HRV.out.next stab_RI hz)
          rwa [HB2.out] at this
        obtain ⟨gl, HGL⟩ : ∃ l, Hid (genL n x.2 V = l) := ⟨_, rfl⟩
        have hgl : gl.length ≤ 8 := by rw [← HGL.out]; exact Nat.le_trans (markL_le _ _) hn8
        have HGE : Hid (b1 = true → ∀ wz, Below w0.heap.size w0 wz → Calls Tryz.prog 132 #[.agg #[.int .i64 (n : Int), .slice B k d], .slice AV nV cV] wz (OwI wz gl)) := fun hb1 wz hz => by
          subst hb1
          have := generate_any _ x AV nV cV V wz (shAlgebra.stab HRD.out hz.block) HX.out (HRV.out.next stab_RI hz) (fun v hv => by have := allIn_m.1 HB1.out v hv; have h2 := HNT.out; have h3 := HX.out.1; omega)
          rw [HNT.out, HGL.out] at this
          exact this
        have Tk : Below w0.heap.size w0 w0 := Below.refl _ _
        rw [HGL.out] at HGB
        rcases b1 with _ | _
        · go_wp2_with fail
          go_quiet ((go_at_call 130; first | exact quiet_one (HIN.out _ (by first | exact Below.refl _ _ | exact below_drewN (Below.refl _ _) _)) | exact quiet_add (HIN.out _ (by first | exact Below.refl _ _ | exact below_drewN (Below.refl _ _) _))))
          go_wp2_with fail
          go_ret
          exact ⟨ret_bool (by rw [HRES.out, HGB.out]; rfl), (by first | exact T0 | exact below_drewN (T0) _ | exact below_drewN (below_drewN (T0) _) _ | exact below_drewN (below_drewN (below_drewN (T0) _) _) _)⟩
        have HGT := Lib.hid (HGE.out rfl)
        clear HGE
        rcases b2 with _ | _
        · go_wp2_with fail
          go_quiet ((first
            | (go_at_call 130; first | exact quiet_one (HIN.out _ (by first | exact Below.refl _ _ | exact below_drewN (Below.refl _ _) _)) | exact quiet_add (HIN.out _ (by first | exact Below.refl _ _ | exact below_drewN (Below.refl _ _) _)))
            | (go_at_call 131; first | exact quiet_one (HRI.out _ (by first | exact Below.refl _ _ | exact below_drewN (Below.refl _ _) _)) | exact quiet_add (HRI.out _ (by first | exact Below.refl _ _ | exact below_drewN (Below.refl _ _) _)))))
          go_wp2_with fail
          go_ret
          exact ⟨ret_bool (by rw [HRES.out, HGB.out]; rfl), (by first | exact T0 | exact below_drewN (T0) _ | exact below_drewN (below_drewN (T0) _) _ | exact below_drewN (below_drewN (below_drewN (T0) _) _) _)⟩
        · have KP0 : Hid (∀ wz, Below w0.heap.size w0 wz → wz.cell? ⟨w.heap.size, 0, none⟩ = some (.int .i64 (n : Int))) := fun wz hz => keepc hz cP0
          go_wp2_with fail
          go_region_law (first
            | (go_simp; go_at_call 130; (with_reducible refine (HIN.out _ ?_).mono ?_); (first | exact Tk | exact below_drewN Tk _); rintro e wa ⟨rfl, za, rfl⟩)
            | (go_simp; go_at_call 131; (with_reducible refine (HRI.out _ ?_).mono ?_); (first | exact Tk | exact below_drewN Tk _); rintro e wb ⟨rfl, zb, rfl⟩)
            | (go_simp; go_at_call 132; (with_reducible refine (HGT.out _ ?_).mono ?_); (first | exact Tk | exact below_drewN Tk _); rintro e wc ⟨A5, c5, rfl, -, hb5⟩; replace Tk := below_next (by first | exact Tk | exact below_drewN Tk _) hb5 rfl; have cR0 := KP0.out _ Tk))
          all_goals
            go_wp2_with fail
            go_ret
            exact ⟨ret_bool (by rw [HRES.out, HGB.out, Bool.true_and, Bool.true_and, Bool.eq_iff_iff]; simp; try omega), below_next T0 (by first | exact Tk | exact below_drewN Tk _) rfl⟩
      have e5 : (kk == 5) = false := beq_eq_false_iff_ne.2 h5
      by_cases h6 : kk = 6
      · subst h6
        have HRES : Hid (trueB x (6, (L, R), V) = homB n x.2 V) := by show _ = _; rw [HT3.out, if_neg (by decide), if_neg (by decide), if_neg (by decide), if_pos rfl]
        obtain ⟨b, HB⟩ : ∃ b, Hid (homB n x.2 V = b) := ⟨_, rfl⟩
        rw [HB.out] at HC6 HRES
        clear e1 e2 e3 e4 e5 h3 h4 h5
        go_wp2_with fail
        refine HC6.out.mono ?_
        rintro e w1 ⟨rfl, hb1⟩
        go_wp2_with fail
        go_ret
        exact ⟨ret_bool HRES.out.symm, below_next T0 hb1 rfl⟩
      have e6 : (kk == 6) = false := beq_eq_false_iff_ne.2 h6
      have HRES : Hid (trueB x (kk, (L, R), V) = false) := by show _ = _; rw [HT3.out, if_neg h3, if_neg h4, if_neg h5, if_neg h6]
      clear h3 h4 h5 h6
      go_wp2_with fail
      go_ret
      exact ⟨ret_bool HRES.out.symm, T0⟩
end Go.Proofs.YtfnmkbpogbekpaaGreatDoor
namespace Go.Proofs.YtfnmkbpogbekpaaGreatDoor
open Go.RowKit
set_option linter.unusedVariables false

end Go.Proofs.YtfnmkbpogbekpaaGreatDoor
namespace Go.Proofs.YtfnmkbpogbekpaaGreatDoor
open Go.RowKit
set_option linter.unusedVariables false

end Go.Proofs.YtfnmkbpogbekpaaGreatDoor
namespace Go.Proofs.YtfnmkbpogbekpaaGreatDoor
open Go.RowKit
set_option linter.unusedVariables false

/-- What the first k operations, and q entries of the next one, give of what is marked. -/
def StTo (n : Nat) (ops : List OpM) (L : List Bool) (k q y : Nat) : Prop := ∃ j o i, ops[j]? = some o ∧ (j < k ∨ (j = k ∧ i < q)) ∧ i < o.2.length ∧ AllM n o.1.toNat i L = true ∧ nmAt o.2 i = y
structure StI (n : Nat) (ops : List OpM) (L M : List Bool) (k q : Nat) : Prop where
  len : M.length = n
  val : ∀ y, y < n → (gB M y = true ↔ gB L y = true ∨ StTo n ops L k q y)
theorem StI.start {n : Nat} {ops : List OpM} {L : List Bool} (h : L.length = n) : StI n ops L L 0 0 := ⟨h, fun y hy => ⟨.inl, fun hh => hh.elim id fun ⟨j, o, i, _, h, _⟩ => by omega⟩⟩
theorem StI.skip {n : Nat} {ops : List OpM} {L M : List Bool} {k q : Nat} {o : OpM} (h : StI n ops L M k q) (ho : ops[k]? = some o) (hA : AllM n o.1.toNat q L = false) : StI n ops L M k (q + 1) := ⟨h.len, fun y hy => by
  rw [h.val y hy]
  refine or_congr Iff.rfl ⟨fun ⟨j, o', i, h1, h2, h3⟩ => ⟨j, o', i, h1, by omega, h3⟩, fun ⟨j, o', i, h1, h2, h3, h4, h5⟩ => ⟨j, o', i, h1, ?_, h3, h4, h5⟩⟩
  by_cases e : j = k ∧ i = q
  · obtain ⟨rfl, rfl⟩ := e
    rw [ho] at h1
    injection h1 with h1
    subst h1
    rw [hA] at h4
    cases h4
  · omega⟩
theorem StI.mark {n : Nat} {ops : List OpM} {L M : List Bool} {k q v : Nat} {o : OpM} (h : StI n ops L M k q) (ho : ops[k]? = some o) (hv : o.2[q]? = some (v : Int)) (hvn : v < n) (hA : AllM n o.1.toNat q L = true) : StI n ops L (M.set v true) k (q + 1) := ⟨by rw [List.length_set]; exact h.len, fun y hy => by
  rw [gB_set (by rw [h.len]; exact hvn)]
  have hn : nmAt o.2 q = v := by rw [nmAt_get hv]; simp
  have hq := (List.getElem?_eq_some_iff.1 hv).1
  by_cases e : y = v
  · subst e
    rw [if_pos rfl]
    exact ⟨fun _ => .inr ⟨k, o, q, ho, .inr ⟨rfl, by omega⟩, hq, hA, hn⟩, fun _ => rfl⟩
  · rw [if_neg e, h.val y hy]
    refine or_congr Iff.rfl ⟨fun ⟨j, o', i, h1, h2, h3⟩ => ⟨j, o', i, h1, by omega, h3⟩, fun ⟨j, o', i, h1, h2, h3, h4, h5⟩ => ⟨j, o', i, h1, ?_, h3, h4, h5⟩⟩
    by_cases e2 : j = k ∧ i = q
    · obtain ⟨rfl, rfl⟩ := e2
      rw [ho] at h1
      injection h1 with h1
      subst h1
      exact absurd (h5.symm.trans hn) e
    · omega⟩
theorem StI.next {n : Nat} {ops : List OpM} {L M : List Bool} {k q : Nat} {o : OpM} (h : StI n ops L M k q) (ho : ops[k]? = some o) (hq : ¬ q < o.2.length) : StI n ops L M (k + 1) 0 := ⟨h.len, fun y hy => by
  rw [h.val y hy]
  refine or_congr Iff.rfl ⟨fun ⟨j, o', i, h1, h2, h3⟩ => ⟨j, o', i, h1, by omega, h3⟩, fun ⟨j, o', i, h1, h2, h3, h4⟩ => ⟨j, o', i, h1, ?_, h3, h4⟩⟩
  by_cases e : j = k
  · subst e
    rw [ho] at h1
    injection h1 with h1
    subst h1
    omega
  · omega⟩
theorem StI.done {n : Nat} {ops : List OpM} {L M : List Bool} {k q : Nat} (h : StI n ops L M k q) (hk : ¬ k < ops.length) : M = stL n ops L := by
  refine gB_ext (n := n) h.len (stL_len _ _ _) fun y hy => ?_
  rw [stL_get hy, Bool.eq_iff_iff, Bool.or_eq_true, tt_iff, h.val y hy]
  refine or_congr Iff.rfl ⟨fun ⟨j, o, i, h1, h2, h3, h4, h5⟩ => ⟨o, List.mem_of_getElem? h1, i, h3, h4, h5⟩, fun ⟨o, ho, i, h3, h4, h5⟩ => ?_⟩
  obtain ⟨j, hj⟩ := List.getElem?_of_mem ho
  have := (List.getElem?_eq_some_iff.1 hj).1
  exact ⟨j, o, i, hj, .inl (by omega), h3, h4, h5⟩
end Go.Proofs.YtfnmkbpogbekpaaGreatDoor
namespace Go.Proofs.YtfnmkbpogbekpaaGreatDoor
open Go.RowKit
set_option linter.unusedVariables false

end Go.Proofs.YtfnmkbpogbekpaaGreatDoor
namespace Go.Proofs.YtfnmkbpogbekpaaGreatDoor
open Go.RowKit
set_option linter.unusedVariables false

end Go.Proofs.YtfnmkbpogbekpaaGreatDoor
namespace Go.Proofs.YtfnmkbpogbekpaaGreatDoor
open Go.RowKit
set_option linter.unusedVariables false

end Go.Proofs.YtfnmkbpogbekpaaGreatDoor
