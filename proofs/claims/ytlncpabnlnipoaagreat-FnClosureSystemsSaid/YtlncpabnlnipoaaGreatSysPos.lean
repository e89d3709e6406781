
/- Walks: SystemPoset, in the program and in the reference. -/
import Derived.Test.YtlncpabnlnipoaaGreatPoset
import Derived.Laws.ResultCell
import Derived.Deep.RegionHeld3
namespace Go.Proofs.YtlncpabnlnipoaaGreat
open Go.RowKit

theorem results_row_tmp {P : Program} {fn : Func} {p u : Tmp} {ty : TypeId} (h : fn.results = #[.cell p ty, .tmp u]) (tmps : Array Value) (w : World) (g : Nat) (t : TypeId) (cs : Array Value) (fr : Nat × Nat) (d : TypeDesc) (b : Value)
    (hp : tmps.getD p undef = .pointer (some ⟨g, 0, none⟩)) (hg : w.heap[g]? = some (.cells cs t fr))
    (hu : P.underlying ty = some d) (hd : (match d with | .struct _ | .array _ _ => true | _ => false) = true) (hi : (P.info? ty).map (·.size) = some cs.size) (hb : tmps.getD u undef = b) :
    (results fn tmps).run P w = .ok (.tuple #[.agg cs, b]) w := by
  rw [results_cell_tmp h, hp, hb]
  simp [asAddr, Result.andThen, run_loadVar_row w g t ty cs fr d hg hu hd hi]

/-- The part of a relation that is laid so far, row by row. -/
def Fto (F : Nat → Nat → Bool) (i0 k0 : Nat) : Nat → Nat → Bool := fun i k => decide (i < i0 ∨ (i = i0 ∧ k < k0)) && F i k
theorem Fto_zero (F : Nat → Nat → Bool) : Fto F 0 0 = fun _ _ => false := by
  funext i k
  simp [Fto]
theorem Fto_step {n : Nat} (F : Nat → Nat → Bool) (i q : Nat) : tab n (upd (Fto F i q) i q (F i q)) = tab n (Fto F i (q + 1)) := by
  refine tab_ext fun x _ y _ => ?_
  unfold upd Fto
  by_cases h : x = i ∧ y = q
  · obtain ⟨rfl, rfl⟩ := h
    simp
  · rw [if_neg h]
    congr 1
    rw [decide_eq_decide]
    omega
theorem Fto_next {n : Nat} (F : Nat → Nat → Bool) (i : Nat) : tab n (Fto F i n) = tab n (Fto F (i + 1) 0) := by
  refine tab_ext fun x _ y hy => ?_
  unfold Fto
  congr 1
  rw [decide_eq_decide]
  omega
theorem Fto_all {n : Nat} (F : Nat → Nat → Bool) : tab n (Fto F n 0) = tab n F := by
  refine tab_ext fun x hx y _ => ?_
  unfold Fto
  simp [hx]
/-- Which set lies within which. -/
def incl (xss : List (List Int)) : Nat → Nat → Bool := fun i k => partL (xss.getD k []) (xss.getD i [])
def posOk (n : Int) (xss : List (List Int)) : Bool := sysRes n xss && decide (xss.length ≤ 10)
def posRes (n : Int) (xss : List (List Int)) : List (List Int) := if posOk n xss then posTo xss.length (incl xss) xss.length else []
/-- The call hands back a poset of its own, by value, and a bool. -/
def OwnPB (w : World) (xss : List (List Int)) (b : Bool) (e : Ending) (w' : World) : Prop := ∃ A n c, e = .returned (.tuple #[.agg #[.slice A n c], .bool b]) ∧ OwM 25 3 (.int .i64) w.heap.size w' (.slice A n c) n xss ∧ Below w.heap.size w w'
/-- The call hands back a poset that reads so, by value, and a bool. -/
def RdPB (w : World) (xss : List (List Int)) (b : Bool) (e : Ending) (w' : World) : Prop := ∃ A n c, e = .returned (.tuple #[.agg #[.slice A n c], .bool b]) ∧ RdL (RV RI) w' A n xss ∧ Below w.heap.size w w'
theorem mat_nil (lo : Nat) (w : World) : OwM 25 3 (.int .i64) lo w (.slice none 0 0) 0 [] :=
  ⟨[], World.ownsRow_nil _ _ _ _, rfl, fun k u xs hu => by simp at hu, by simp⟩

set_option maxRecDepth 20000 in
set_option maxHeartbeats 1000000 in
theorem implSysPos_any (A : Option Addr) (m c : Nat) (xss : List (List Int)) (n : Int) (w : World) (h : RdL (RV RI) w A m xss) (hm : m ≤ c) (hm2 : ∀ xs ∈ xss, xs.length ≤ 1048576) :
    Calls Tryz.prog 16 #[.int .i64 n, .slice A m c] w (OwnPB w (posRes n xss) (posOk n xss)) := by
  have hle := h.le
  have hlen := Lib.hid h.len
  have hb0 := below_box w (.cells #[.slice none 0 0] 37)
  have BR0 := Blk.new w 37 #[.slice none 0 0]
  have h0 := h.next stab_RVI hb0
  rcases h1 : sysRes n xss with _ | _
  · have HO : Hid (posOk n xss = false) := by show _ = _; unfold posOk; rw [h1]; rfl
    have H1 := Lib.hid h1
    clear h1
    go_enter Tryz.func16, Tryz.ntmps16
    go_wp2_with fail
    refine (hasSystem_any _ _ _ _ _ _ h0 hm hm2).mono ?_
    rintro e w1 ⟨rfl, hb1⟩
    rw [H1.out]
    have BR := BR0.next hb1
    have cR := BR.cell 0
    have fR := BR.frozen 0
    simp at cR
    go_wp2_with fail
    (try simp only [Exit.inBlock, Exit.then])
    refine bodyPost_ret (v := .tuple #[.agg #[.slice none 0 0], .bool false]) (results_row_tmp rfl _ _ w.heap.size 37 #[.slice none 0 0] (0, 0) _ _ (by simp) (BR.set_ 0 _) Tryz.underlying37 rfl (by kernel_rfl) (by simp)) rfl ?_
    exact ⟨none, 0, 0, by rw [HO.out], by unfold posRes; rw [HO.out]; exact mat_nil _ _, (below_next hb0 hb1 rfl).setCell (Nat.le_refl _) _⟩
  · have H1 := Lib.hid h1
    clear h1
    by_cases hm10 : m ≤ 10
    rotate_left
    · have HO : Hid (posOk n xss = false) := by show _ = _; unfold posOk; rw [hlen.out]; simp; omega
      go_enter Tryz.func16, Tryz.ntmps16
      go_wp2_with fail
      refine (hasSystem_any _ _ _ _ _ _ h0 hm hm2).mono ?_
      rintro e w1 ⟨rfl, hb1⟩
      rw [H1.out]
      have BR := BR0.next hb1
      have cR := BR.cell 0
      have fR := BR.frozen 0
      simp at cR
      go_wp2_with fail
      (try simp only [Exit.inBlock, Exit.then])
      refine bodyPost_ret (v := .tuple #[.agg #[.slice none 0 0], .bool false]) (results_row_tmp rfl _ _ w.heap.size 37 #[.slice none 0 0] (0, 0) _ _ (by simp) (BR.set_ 0 _) Tryz.underlying37 rfl (by kernel_rfl) (by simp)) rfl ?_
      exact ⟨none, 0, 0, by rw [HO.out], by unfold posRes; rw [HO.out]; exact mat_nil _ _, (below_next hb0 hb1 rfl).setCell (Nat.le_refl _) _⟩
    · have HO : Hid (posOk n xss = true) := by show _ = _; unfold posOk; rw [H1.out, hlen.out]; simp; exact hm10
      have HR : Hid (posRes n xss = posTo m (incl xss) m) := by show _ = _; unfold posRes; rw [HO.out, hlen.out]; rfl
      go_enter Tryz.func16, Tryz.ntmps16
      go_wp2_with fail
      refine (hasSystem_any _ _ _ _ _ _ h0 hm hm2).mono ?_
      rintro e w1 ⟨rfl, hb1⟩
      rw [H1.out]
      have BR1 := BR0.next hb1
      have hT1 := below_next hb0 hb1 rfl
      clear hb1
      go_wp2_with fail
      refine (newOrder_any m _ (by omega)).mono ?_
      rintro e w2 ⟨g, rfl, ho2, hb2⟩
      have BR := BR1.next hb2
      have hg := BR1.lt
      have hT2 := below_next hT1 hb2 rfl
      have h2 := h.next stab_RVI hT2
      have ho : OwT (w.heap.size + 1) w2 g m (Fto (incl xss) 0 0) := by
        have := ho2.mono (lo' := w.heap.size + 1) hg
        rw [Fto_zero]
        exact this
      clear ho2 hb2 hT1 BR1 hg h0 hb0 BR0
      go_wp2_with fail
      go_loopw [26] (fun i wr => ∃ k : Nat, k ≤ m ∧ i = .int .i64 k ∧ Blk wr w.heap.size 37 #[.slice none 0 0] ∧ OwT (w.heap.size + 1) wr g m (Fto (incl xss) k 0) ∧ Below w.heap.size w wr) (fun i _ => m - (intOf i).toNat)
      case atStart => exact ⟨0, Nat.zero_le _, rfl, BR, ho, hT2⟩
      case round =>
        clear BR ho hT2 h2
        obtain ⟨k, hk, rfl, BR, ho, hT⟩ := hrel
        by_cases hlt : k < m
        · obtain ⟨b, o, v, s, rfl, hc0, ⟨B, j, d, rfl, hs⟩, -, hx⟩ := h.at hlt
          have HX := Lib.hid hx
          have hk0 : (0 : Int) ≤ (k : Int) := by omega
          have hk1 : (k : Int) < (m : Int) := by omega
          have hc : wr.cell? ⟨b, o + k, none⟩ = some (.slice B j d) := (hT.cell (p := ⟨b, o + k, none⟩) (cell_lt hc0)).trans hc0
          clear hx hc0
          obtain ⟨wo, hwo⟩ : ∃ wo : World, wo = wr := ⟨_, rfl⟩
          subst hwo
          go_wp2_with fail
          go_loopw [33] (fun i wi => ∃ q : Nat, q ≤ m ∧ i = .int .i64 q ∧ Blk wi w.heap.size 37 #[.slice none 0 0] ∧ OwT (w.heap.size + 1) wi g m (Fto (incl xss) k q) ∧ Below w.heap.size w wi) (fun i _ => m - (intOf i).toNat)
          case atStart => exact ⟨0, Nat.zero_le _, rfl, BR, ho, hT⟩
          case round =>
            clear BR ho hT hc
            obtain ⟨q, hq, rfl, BR, ho, hT⟩ := hrel
            by_cases hltq : q < m
            · obtain ⟨v, t, hct0, ⟨Bt, jt, dt, rfl, htt⟩, -, hxt⟩ := h.at' hltq
              have HXT := Lib.hid hxt
              have hct : wr.cell? ⟨b, o + q, none⟩ = some (.slice Bt jt dt) := (hT.cell (p := ⟨b, o + q, none⟩) (cell_lt hct0)).trans hct0
              obtain ⟨r, dr, hgr, hcell, hlo, hrl, hcs, hset⟩ := ho.get hlt
              obtain ⟨hcq, hfq⟩ := hcs q hltq
              have hs' := hs.next stab_RI hT
              have ht' := htt.next stab_RI hT
              have hq0 : (0 : Int) ≤ (q : Int) := by omega
              have hq1 : (q : Int) < (m : Int) := by omega
              have hst := hset q (partL t s) hltq
              have HF : Hid (partL t s = incl xss k q) := by show _ = _; unfold incl; simp [List.getD_eq_getElem?_getD, HX.out, HXT.out]
              clear hxt hct0 hcs hset
              go_wp2
              go_region_held3 (fun w' => w'.cell? ⟨g, k, none⟩ = some (.slice (some ⟨r, 0, none⟩) m dr)) (first | go_keep | exact hcell | exact (World.cell?_setCell_far _ _ _ _ hgr).trans hcell) ((go_at_call 39; refine (isPart_any _ _ _ _ _ _ _ _ _ (hs'.drew stab_RI) (ht'.drew stab_RI)).mono ?_; rintro e w' ⟨rfl, rfl⟩))
              go_wp2
              go_roundw
              case rel => exact ⟨q + 1, by omega, by go_num, (BR.far (p := ⟨r, q, none⟩) (by show w.heap.size ≠ r; omega) _).drew, by
                show OwM _ _ _ _ _ _ _ (tab m (Fto (incl xss) k (q + 1)))
                rw [← Fto_step (incl xss) k q, ← HF.out]
                exact hst, (hT.setCell (p := ⟨r, q, none⟩) (by show w.heap.size ≤ r; omega) _).drew⟩
              case measure => simp [intOf]; omega
            · obtain rfl : q = m := by omega
              go_wp2
              go_roundw
              case rel => exact ⟨k + 1, by omega, by go_num, BR, by
                show OwM _ _ _ _ _ _ _ (tab q (Fto (incl xss) (k + 1) 0))
                rw [← Fto_next (incl xss) k]
                exact ho, hT⟩
              case measure => simp [intOf]; omega
        · obtain rfl : k = m := by omega
          have ho' : OwM 62 4 Value.bool (w.heap.size + 1) wr (.slice (some ⟨g, 0, none⟩) k k) k (tab k (incl xss)) := by
            rw [← Fto_all (incl xss)]
            exact ho
          go_wp2_with fail
          refine (poset_any _ _ _ _ _ (ho'.rd (R := RB) (fun xs _ x _ => rfl)) (by omega)).mono ?_
          rintro e w5 ⟨A5, c5, rfl, ho5, hb5⟩
          have BR5 := BR.next hb5
          have cR := BR5.cell 0
          have fR := BR5.frozen 0
          simp at cR
          have hT5 := below_next hT hb5 rfl
          go_wp2_with fail
          (try simp only [Exit.inBlock, Exit.then])
          refine bodyPost_ret (v := .tuple #[.agg #[.slice A5 k c5], .bool true]) (results_row_tmp rfl _ _ w.heap.size 37 #[.slice A5 k c5] (0, 0) _ _ (by simp) (BR5.set_ 0 _) Tryz.underlying37 rfl (by kernel_rfl) (by simp)) rfl ?_
          exact ⟨A5, k, c5, by rw [HO.out], by rw [HR.out]; exact (ho5.far BR5 (by decide) (by decide) 0 _).mono hT.size, hT5.setCell (Nat.le_refl _) _⟩
theorem posTo_RI {n : Nat} {F : Nat → Nat → Bool} {k : Nat} (hn : n ≤ 1048576) {w : World} : ∀ xs ∈ posTo n F k, ∀ x ∈ xs, RI w (.int .i64 x) x := by
  intro xs hxs x hx
  obtain ⟨z, -, rfl⟩ := List.mem_map.1 hxs
  obtain ⟨y, hy, -, rfl⟩ := rowTo_mem.1 hx
  exact ⟨rfl, by omega, by omega⟩
set_option maxRecDepth 20000 in
set_option maxHeartbeats 1000000 in
theorem specSysPos_any (A : Option Addr) (m c : Nat) (xss : List (List Int)) (n : Int) (w : World) (h : RdL (RV RI) w A m xss) :
    Calls Tryz.prog 17 #[.int .i64 n, .slice A m c] w (RdPB w (posRes n xss) (posOk n xss)) := by
  have hle := h.le
  have hlen := Lib.hid h.len
  have hb0 := below_box w (.cells #[.slice none 0 0] 37)
  have BR0 := Blk.new w 37 #[.slice none 0 0]
  have h0 := h.next stab_RVI hb0
  by_cases hok : sysRes n xss = true ∧ m ≤ 10
  rotate_left
  · have HO : Hid (posOk n xss = false) := by
      show _ = _
      unfold posOk
      rw [hlen.out]
      rcases h1 : sysRes n xss with _ | _
      · rfl
      · simp only [Bool.true_and, decide_eq_false_iff_not]
        exact fun h2 => hok ⟨h1, h2⟩
    rcases h1 : sysRes n xss with _ | _
    all_goals
      first
        | have hm10 : ¬ m ≤ 10 := fun h2 => hok ⟨h1, h2⟩
        | skip
      have H1 := Lib.hid h1
      clear h1 hok
      go_enter Tryz.func17, Tryz.ntmps17
      go_wp2_with fail
      refine (l30GoodAll_any _ _ _ _ _ _ h0).mono ?_
      rintro e w1 ⟨rfl, hb1⟩
      rw [H1.out]
      have BR := BR0.next hb1
      have cR := BR.cell 0
      have fR := BR.frozen 0
      simp at cR
      go_wp2_with fail
      (try simp only [Exit.inBlock, Exit.then])
      refine bodyPost_ret (v := .tuple #[.agg #[.slice none 0 0], .bool false]) (results_row_tmp rfl _ _ w.heap.size 37 #[.slice none 0 0] (0, 0) _ _ (by simp) (BR.set_ 0 _) Tryz.underlying37 rfl (by kernel_rfl) (by simp)) rfl ?_
      exact ⟨none, 0, 0, by rw [HO.out], by unfold posRes; rw [HO.out]; exact RdL.nil _ _ _, (below_next hb0 hb1 rfl).setCell (Nat.le_refl _) _⟩
  · obtain ⟨h1, hm10⟩ := hok
    have H1 := Lib.hid h1
    clear h1
    have HO : Hid (posOk n xss = true) := by show _ = _; unfold posOk; rw [H1.out, hlen.out]; simp; exact hm10
    have HR : Hid (posRes n xss = posTo m (incl xss) m) := by show _ = _; unfold posRes; rw [HO.out, hlen.out]; rfl
    go_enter Tryz.func17, Tryz.ntmps17
    go_wp2_with fail
    refine (l30GoodAll_any _ _ _ _ _ _ h0).mono ?_
    rintro e w1 ⟨rfl, hb1⟩
    rw [H1.out]
    have BR1 := BR0.next hb1
    have hT1 := below_next hb0 hb1 rfl
    have hs1 := hT1.size
    have hlt1 := BR1.lt
    have BR : Blk ((w1.alloc (.cells #[] 25)).alloc (.cells #[.slice (some ⟨w1.heap.size, 0, none⟩) 0 0] 37)) w.heap.size 37 #[.slice none 0 0] := (BR1.alloc _).alloc _
    have BP : Blk ((w1.alloc (.cells #[] 25)).alloc (.cells #[.slice (some ⟨w1.heap.size, 0, none⟩) 0 0] 37)) (w1.heap.size + 1) 37 #[.slice (some ⟨w1.heap.size, 0, none⟩) 0 0] := by
      have h1 := Blk.new (w1.alloc (.cells #[] 25)) 37 #[.slice (some ⟨w1.heap.size, 0, none⟩) 0 0]
      simpa using h1
    have hl := (mat_lit hT1).next (below_box _ (.cells #[.slice (some ⟨w1.heap.size, 0, none⟩) 0 0] 37))
    have hT := below_next hT1 (below_box2 w1 (.cells #[] 25) (.cells #[.slice (some ⟨w1.heap.size, 0, none⟩) 0 0] 37)) rfl
    clear hb1 BR1 BR0 hb0 h0 hT1
    go_wp2_with fail
    go_loopw [7, 8, 9] (fun i _ _ wr => ∃ (k : Nat) (A' : Option Addr) (c' : Nat), k ≤ m ∧ i = .int .i64 k ∧ Blk wr w.heap.size 37 #[.slice none 0 0] ∧ Blk wr (w1.heap.size + 1) 37 #[.slice A' k c'] ∧ OwM 25 3 (.int .i64) w.heap.size wr (.slice A' k c') k (posTo m (incl xss) k) ∧ Below w.heap.size w wr) (fun i _ _ _ => m - (intOf i).toNat)
    case atStart => exact ⟨0, _, _, Nat.zero_le _, rfl, BR, BP, hl, hT⟩
    case round =>
      clear BR BP hl hT
      obtain ⟨k, A', c', hk, rfl, BR, BP, hown, hT⟩ := hrel
      by_cases hlt : k < m
      · obtain ⟨b, o, v, s, rfl, hc0, ⟨B, j, d, rfl, hs⟩, -, hx⟩ := h.at hlt
        have HX := Lib.hid hx
        have hk0 : (0 : Int) ≤ (k : Int) := by omega
        have hk1 : (k : Int) < (m : Int) := by omega
        clear hx
        obtain ⟨wo, hwo⟩ : ∃ wo : World, wo = wr := ⟨_, rfl⟩
        subst hwo
        go_wp2
        go_loopw [8, 9] (fun v i wi => ∃ (q p : Nat) (A2 : Option Addr) (c2 : Nat), q ≤ m ∧ p ≤ q ∧ i = .int .i64 q ∧ v = .slice A2 p c2 ∧ Hid ((rowTo (incl xss) k q).length = p) ∧ wi.ownsRow wo.heap.size 3 1 (.slice A2 p c2) p (ints (rowTo (incl xss) k q)) ∧ Below wo.heap.size wo wi) (fun _ i _ => m - (intOf i).toNat)
        case atStart => exact ⟨0, 0, _, _, Nat.zero_le _, Nat.le_refl _, rfl, rfl, rfl, World.ownsRow_lit _ _ _ (Nat.le_refl _) (Nat.zero_le _) rfl, below_box _ _⟩
        case round =>
          obtain ⟨q, p, A2, c2, hq, hpq, rfl, rfl, HML, hrow, hTi⟩ := hrel
          have hT2 := below_next hT hTi rfl
          have hsz := hT2.size
          have hbase := hTi.size
          by_cases hltq : q < m
          · obtain ⟨v, t, hct0, ⟨Bt, jt, dt, rfl, htt⟩, -, hxt⟩ := h.at' hltq
            have hct : wr.cell? ⟨b, o + q, none⟩ = some (.slice Bt jt dt) := (hT2.cell (p := ⟨b, o + q, none⟩) (cell_lt hct0)).trans hct0
            have hc : wr.cell? ⟨b, o + k, none⟩ = some (.slice B j d) := (hT2.cell (p := ⟨b, o + k, none⟩) (cell_lt hc0)).trans hc0
            have hs' := hs.next stab_RI hT2
            have ht' := htt.next stab_RI hT2
            have hq0 : (0 : Int) ≤ (q : Int) := by omega
            have hq1 : (q : Int) < (m : Int) := by omega
            have HF : Hid (partL s t = incl xss q k) := by show _ = _; unfold incl; simp [List.getD_eq_getElem?_getD, HX.out, hxt]
            clear hxt hct0
            rcases hp : partL s t with _ | _
            · have HP := Lib.hid hp
              clear hp
              go_wp2
              go_quiet ((go_at_call 43; exact quiet_one (quiet_same (l5Within_any _ _ _ _ _ _ _ _ _ (ht'.drewN stab_RI _) (hs'.drewN stab_RI _)))))
              rw [HP.out]
              go_wp2
              go_roundw
              case rel => exact ⟨q + 1, p, A2, c2, by omega, by omega, by go_num, rfl, by rw [rowTo_succ, ← HF.out, HP.out]; exact HML, by rw [rowTo_succ, ← HF.out, HP.out]; exact hrow, below_drewN hTi _⟩
              case measure => simp [intOf]; omega
            · have HP := Lib.hid hp
              clear hp
              go_wp2
              go_quiet ((go_at_call 43; exact quiet_one (quiet_same (l5Within_any _ _ _ _ _ _ _ _ _ (ht'.drewN stab_RI _) (hs'.drewN stab_RI _)))))
              rw [HP.out]
              have hbd := (below_drewN hTi 0).size
              go_wp2_with (at_builtin; refine app1 (wr.drewN _) rfl _ _ 25 3 rfl (.int .i64 0) 8 Tryz.underlying25 info_int rfl (by decide) wo.heap.size p c2 A2 (ints (rowTo (incl xss) k q)) rfl (own_drewN hrow _) (.int .i64 q) rfl rfl (by omega) hbase ?_; intro A3 c3 w3 hown3 hg3 hb3)
              go_roundw
              case rel => exact ⟨q + 1, p + 1, A3, c3, by omega, by omega, by go_num, rfl, by show _ = _; rw [rowTo_succ, ← HF.out, HP.out, if_pos rfl, List.length_append, HML.out]; rfl, by rw [rowTo_succ, ← HF.out, HP.out, if_pos rfl, ints_snoc]; exact hown3, (below_drewN hTi _).trans hb3⟩
              case measure => simp [intOf]; omega
          · obtain rfl : q = m := by omega
            have BR' := BR.next hTi
            have BP' := BP.next hTi
            have cP := BP'.cell 0
            simp at cP
            obtain ⟨vs, hvs, HPU⟩ := hown.push (by decide) hTi hT.size (by rw [HML.out]; exact hrow)
            go_wp2_with (at_builtin; refine app1 wr rfl _ _ 24 25 rfl (.slice none 0 0) 24 Tryz.underlying24 info_ints rfl (by decide) w.heap.size k c' A' vs rfl hvs (.slice A2 p c2) rfl rfl (by omega) hsz ?_; intro A5 c5 w5 hown5 hg5 hb5; have BP5 := BP'.grown hg5 (fun e => own_far hvs BP' (by decide) e.symm); have BR5 := BR'.grown hg5 (fun e => own_far hvs BR' (by decide) e.symm); have cP5 := BP5.cell 0; have fP5 := BP5.frozen 0; simp at cP5)
            go_roundw
            case rel => exact ⟨k + 1, A5, c5, by omega, by go_num, BR5.far (p := ⟨w1.heap.size + 1, 0, none⟩) (by show w.heap.size ≠ w1.heap.size + 1; omega) _, BP5.set_ 0 _, by rw [posTo_succ]; exact (HPU hown5 hg5).far BP5 (by decide) (by decide) 0 _, (hT2.trans hb5).setCell (p := ⟨w1.heap.size + 1, 0, none⟩) (by show w.heap.size ≤ w1.heap.size + 1; omega) _⟩
            case measure => simp [intOf]; omega
      · obtain rfl : k = m := by omega
        have cP := BP.cell 0
        have cR := BR.cell 0
        have fR := BR.frozen 0
        simp at cP cR
        have hne : w.heap.size ≠ w1.heap.size + 1 := by omega
        go_wp2
        (try simp only [Exit.inBlock, Exit.then])
        refine bodyPost_ret (v := .tuple #[.agg #[.slice A' k c'], .bool true]) (results_row_tmp rfl _ _ w.heap.size 37 #[.slice A' k c'] (0, 0) _ _ (by simp) (BR.set_ 0 _) Tryz.underlying37 rfl (by kernel_rfl) (by simp)) rfl ?_
        exact ⟨A', k, c', by rw [HO.out], by rw [HR.out]; exact (hown.far BR (by decide) (by decide) 0 _).rd (R := RI) (posTo_RI (by omega)), hT.setCell (Nat.le_refl _) _⟩
theorem posOk_len {n : Int} {xss : List (List Int)} (h : posOk n xss = true) : xss.length ≤ 10 := by
  unfold posOk at h
  simp at h
  exact h.2
theorem posRes_total (n : Int) (xss : List (List Int)) : total (posRes n xss) ≤ 1099511627776 := by
  unfold posRes
  split
  · rename_i h
    have h1 := posOk_len h
    refine total_le (fun p hp => ?_) (by rw [posTo_len]; omega)
    obtain ⟨z, -, rfl⟩ := List.mem_map.1 hp
    have := rowTo_len (incl xss) z xss.length
    omega
  · simp [total]
theorem posRes_RI (n : Int) (xss : List (List Int)) (w : World) : ∀ xs ∈ posRes n xss, ∀ x ∈ xs, RI w (.int .i64 x) x := by
  unfold posRes
  split
  · rename_i h
    have h1 := posOk_len h
    exact posTo_RI (by omega)
  · intro xs hx
    simp at hx
end Go.Proofs.YtlncpabnlnipoaaGreat
