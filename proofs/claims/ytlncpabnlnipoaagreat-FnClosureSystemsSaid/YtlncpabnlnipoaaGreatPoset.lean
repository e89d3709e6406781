
/- Walks: an order as a poset; SystemPoset. -/
import Derived.Test.YtlncpabnlnipoaaGreatOrder
import Derived.Test.YtlncpabnlnipoaaGreatIrrWalk
namespace Go.Proofs.YtlncpabnlnipoaaGreat
open Go.RowKit

/-- What stands below x, of 0, .. q - 1. -/
def rowTo (F : Nat → Nat → Bool) (x q : Nat) : List Int := ((List.range q).filter fun y => F y x).map fun (y : Nat) => (y : Int)
theorem rowTo_succ (F : Nat → Nat → Bool) (x q : Nat) : rowTo F x (q + 1) = if F q x then rowTo F x q ++ [(q : Int)] else rowTo F x q := by
  unfold rowTo
  rw [List.range_succ, List.filter_append]
  rcases h : F q x with _ | _ <;> simp [h]
theorem rowTo_len (F : Nat → Nat → Bool) (x q : Nat) : (rowTo F x q).length ≤ q := by
  unfold rowTo
  rw [List.length_map]
  have := List.length_filter_le (fun y => F y x) (List.range q)
  rwa [List.length_range] at this
theorem rowTo_mem {F : Nat → Nat → Bool} {x q : Nat} {v : Int} : v ∈ rowTo F x q ↔ ∃ y : Nat, y < q ∧ F y x = true ∧ v = y := by
  unfold rowTo
  simp only [List.mem_map, List.mem_filter, List.mem_range]
  constructor
  · rintro ⟨y, ⟨h1, h2⟩, h3⟩
    exact ⟨y, h1, h2, h3.symm⟩
  · rintro ⟨y, h1, h2, h3⟩
    exact ⟨y, ⟨h1, h2⟩, h3.symm⟩
def posTo (n : Nat) (F : Nat → Nat → Bool) (k : Nat) : List (List Int) := (List.range k).map fun x => rowTo F x n
theorem posTo_succ (n : Nat) (F : Nat → Nat → Bool) (k : Nat) : posTo n F (k + 1) = posTo n F k ++ [rowTo F k n] := by
  unfold posTo
  rw [List.range_succ, List.map_append]
  rfl
theorem posTo_len (n : Nat) (F : Nat → Nat → Bool) (k : Nat) : (posTo n F k).length = k := by simp [posTo]

theorem own_far {w : World} {base : Nat} {e : TypeId} {size : Nat} {v : Value} {n : Nat} {xs : List Value} (h : w.ownsRow base e size v n xs) {g : Nat} {t : TypeId} {cs : Array Value} (hB : Blk w g t cs) (hne : e ≠ t) : v.ownBlock ≠ some g := by
  rcases h.2 with ⟨rfl, _⟩ | ⟨g1, cap, cur, rfl, _, hh, _⟩
  · simp [Value.ownBlock]
  · intro hc
    simp only [Value.ownBlock, Option.some.injEq] at hc
    subst hc
    rw [hB] at hh
    injection hh with hh
    injection hh with _ ht
    exact hne ht.symm
theorem OwM.far {α : Type} {eo ei : TypeId} {f : α → Value} {lo : Nat} {w : World} {v : Value} {n : Nat} {xss : List (List α)} (h : OwM eo ei f lo w v n xss) {g : Nat} {t : TypeId} {cs : Array Value} (hB : Blk w g t cs) (h1 : eo ≠ t) (h2 : ei ≠ t) (k : Nat) (u : Value) : OwM eo ei f lo (w.setCell ⟨g, k, none⟩ u) v n xss := by
  obtain ⟨vs, ho, hl, hr, hd⟩ := h
  exact ⟨vs, own_set ho (own_far ho hB h1) u, hl, fun j y ys hy hx => own_set (hr j y ys hy hx) (own_far (hr j y ys hy hx) hB h2) u, hd⟩
theorem RdL.atT {w : World} {A : Option Addr} {n : Nat} {F : Nat → Nat → Bool} (h : RdL (RV RB) w A n (tab n F)) {i k : Nat} (hi : i < n) (hk : k < n) :
    ∃ b o r p d, A = some ⟨b, o, none⟩ ∧ w.cell? ⟨b, o + i, none⟩ = some (.slice (some ⟨r, p, none⟩) n d) ∧ w.cell? ⟨r, p + k, none⟩ = some (.bool (F i k)) := by
  obtain ⟨b, o, v, row, rfl, hc, ⟨B, m, d, rfl, hr⟩, -, hx⟩ := h.at hi
  rw [tab_get hi] at hx
  injection hx with hx
  subst hx
  have hm : m = n := by have := hr.len; simpa using this.symm
  subst hm
  obtain ⟨r, p, v, x, rfl, hc', hv, -, hx'⟩ := hr.at hk
  rw [row_get hk] at hx'
  injection hx' with hx'
  subst hx'
  rw [hv] at hc'
  exact ⟨b, o, r, p, d, rfl, hc, hc'⟩
theorem stab_RVB : Stab (RV RB) := stab_RV stab_RB

set_option maxRecDepth 20000 in
set_option maxHeartbeats 1000000 in
theorem poset_any (A : Option Addr) (n c : Nat) (F : Nat → Nat → Bool) (w : World) (h : RdL (RV RB) w A n (tab n F)) (hn : n ≤ 1048576) :
    Calls Tryz.prog 48 #[.slice A n c] w fun e w' => ∃ A' c', e = .returned (.agg #[.slice A' n c']) ∧ OwM 25 3 (.int .i64) w.heap.size w' (.slice A' n c') n (posTo n F n) ∧ Below w.heap.size w w' := by
  have hle := h.le
  go_enter Tryz.func48, Tryz.ntmps48
  have hl0 := mat_lit (w := w) (below_box w (.cells #[.slice none 0 0] 37))
  have hs1 : (w.alloc (.cells #[.slice none 0 0] 37)).heap.size = w.heap.size + 1 := by simp
  rw [hs1] at hl0
  have hl := hl0.next (below_box _ (.cells #[.slice (some ⟨w.heap.size + 1, 0, none⟩) 0 0] 37))
  have BR : Blk (((w.alloc (.cells #[.slice none 0 0] 37)).alloc (.cells #[] 25)).alloc (.cells #[.slice (some ⟨w.heap.size + 1, 0, none⟩) 0 0] 37)) w.heap.size 37 #[.slice none 0 0] := ((Blk.new w 37 #[.slice none 0 0]).alloc _).alloc _
  have BP : Blk (((w.alloc (.cells #[.slice none 0 0] 37)).alloc (.cells #[] 25)).alloc (.cells #[.slice (some ⟨w.heap.size + 1, 0, none⟩) 0 0] 37)) (w.heap.size + 1 + 1) 37 #[.slice (some ⟨w.heap.size + 1, 0, none⟩) 0 0] := by
    have h1 := Blk.new ((w.alloc (.cells #[.slice none 0 0] 37)).alloc (.cells #[] 25)) 37 #[.slice (some ⟨w.heap.size + 1, 0, none⟩) 0 0]
    simpa using h1
  have hT := below_box3 w (.cells #[.slice none 0 0] 37) (.cells #[] 25) (.cells #[.slice (some ⟨w.heap.size + 1, 0, none⟩) 0 0] 37)
  clear hl0 hs1
  go_wp2
  go_loopw [11] (fun i wr => ∃ (k : Nat) (A' : Option Addr) (c' : Nat), k ≤ n ∧ i = .int .i64 k ∧ Blk wr w.heap.size 37 #[.slice none 0 0] ∧ Blk wr (w.heap.size + 1 + 1) 37 #[.slice A' k c'] ∧ OwM 25 3 (.int .i64) w.heap.size wr (.slice A' k c') k (posTo n F k) ∧ Below w.heap.size w wr) (fun i _ => n - (intOf i).toNat)
  case atStart => exact ⟨0, _, _, Nat.zero_le _, rfl, BR, BP, hl, hT⟩
  case round =>
    clear BR BP hl hT
    obtain ⟨k, A', c', hk, rfl, BR, BP, hown, hT⟩ := hrel
    replace h := h.next stab_RVB hT
    by_cases hlt : k < n
    · have hk0 : (0 : Int) ≤ (k : Int) := by omega
      have hk1 : (k : Int) < (n : Int) := by omega
      obtain ⟨wo, hwo⟩ : ∃ wo : World, wo = wr := ⟨_, rfl⟩
      subst hwo
      go_wp2
      go_loopw [5, 17] (fun v i wi => ∃ (q m : Nat) (A2 : Option Addr) (c2 : Nat), q ≤ n ∧ m ≤ q ∧ i = .int .i64 q ∧ v = .slice A2 m c2 ∧ (rowTo F k q).length = m ∧ wi.ownsRow wo.heap.size 3 1 (.slice A2 m c2) m (ints (rowTo F k q)) ∧ Below wo.heap.size wo wi) (fun _ i _ => n - (intOf i).toNat)
      case atStart => exact ⟨0, 0, _, _, Nat.zero_le _, Nat.le_refl _, rfl, rfl, rfl, World.ownsRow_lit _ _ _ (Nat.le_refl _) (Nat.zero_le _) rfl, below_box _ _⟩
      case round =>
        obtain ⟨q, m, A2, c2, hq, hmq, rfl, rfl, hml, hrow, hTi⟩ := hrel
        have h' := h.next stab_RVB hTi
        have HML := Lib.hid hml
        clear hml
        by_cases hltq : q < n
        · obtain ⟨b, o, r, p, d, rfl, hc1, hc2⟩ := h'.atT hltq hlt
          have hq0 : (0 : Int) ≤ (q : Int) := by omega
          have hq1 : (q : Int) < (n : Int) := by omega
          have hbase := hTi.size
          rcases hF : F q k with _ | _
          · rw [hF] at hc2
            go_wp2
            go_roundw
            case rel => exact ⟨q + 1, m, A2, c2, by omega, by omega, by go_num, rfl, by rw [rowTo_succ, hF]; exact HML.out, by rw [rowTo_succ, hF]; exact hrow, hTi⟩
            case measure => simp [intOf]; omega
          · rw [hF] at hc2
            go_wp2_with (at_builtin; refine app1 wr rfl _ _ 25 3 rfl (.int .i64 0) 8 Tryz.underlying25 info_int rfl (by decide) wo.heap.size m c2 A2 (ints (rowTo F k q)) rfl hrow (.int .i64 q) rfl rfl (by omega) hbase ?_; intro A3 c3 w3 hown3 hg3 hb3)
            go_roundw
            case rel => exact ⟨q + 1, m + 1, A3, c3, by omega, by omega, by go_num, rfl, by rw [rowTo_succ, hF, if_pos rfl, List.length_append, HML.out]; rfl, by rw [rowTo_succ, hF, if_pos rfl, ints_snoc]; exact hown3, hTi.trans hb3⟩
            case measure => simp [intOf]; omega
        · obtain rfl : q = n := by omega
          have BR' := BR.next hTi
          have BP' := BP.next hTi
          have cP := BP'.cell 0
          simp at cP
          have hT2 := below_next hT hTi rfl
          have hsz := hT2.size
          obtain ⟨vs, hvs, HPU⟩ := hown.push (by decide) hTi hT.size (by rw [HML.out]; exact hrow)
          go_wp2_with (at_builtin; refine app1 wr rfl _ _ 24 25 rfl (.slice none 0 0) 24 Tryz.underlying24 info_ints rfl (by decide) w.heap.size k c' A' vs rfl hvs (.slice A2 m c2) rfl rfl (by omega) hsz ?_; intro A5 c5 w5 hown5 hg5 hb5; have BP5 := BP'.grown hg5 (fun e => own_far hvs BP' (by decide) e.symm); have BR5 := BR'.grown hg5 (fun e => own_far hvs BR' (by decide) e.symm); have cP5 := BP5.cell 0; have fP5 := BP5.frozen 0; simp at cP5)
          go_roundw
          case rel => exact ⟨k + 1, A5, c5, by omega, by go_num, BR5.far (by show _ ≠ _; simp; try omega) _, BP5.set_ 0 _, by rw [posTo_succ]; exact (HPU hown5 hg5).far BP5 (by decide) (by decide) 0 _, (hT2.trans hb5).setCell (by show _ ≤ _; simp; try omega) _⟩
          case measure => simp [intOf]; omega
    · obtain rfl : k = n := by omega
      have cP := BP.cell 0
      have cR := BR.cell 0
      have fR := BR.frozen 0
      simp at cP cR
      go_wp2
      have BRR := BR.set_ 0 (.slice A' k c')
      (try simp only [Exit.inBlock, Exit.then])
      refine bodyPost_ret (v := .agg #[.slice A' k c']) (results_cell_row rfl _ _ w.heap.size 37 #[.slice A' k c'] (0, 0) _ (by simp) BRR Tryz.underlying37 rfl (by kernel_rfl)) rfl ?_
      exact ⟨_, _, rfl, hown.far BR (by decide) (by decide) 0 _, hT.setCell (by show _ ≤ _; simp; try omega) _⟩
end Go.Proofs.YtlncpabnlnipoaaGreat
