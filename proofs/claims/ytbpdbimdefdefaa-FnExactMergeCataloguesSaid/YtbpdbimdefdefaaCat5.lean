
/- Walks: copies of catalogues, in the program and in the reference. -/
import Derived.Test.YtbpdbimdefdefaaHEntry
import Derived.Deep.RegionLaw
import Derived.Test.YtbpdbimdefdefaaPE
import Derived.Test.YtbpdbimdefdefaaCForm
namespace Go.Proofs.Ytbpdbimdefdefaa
open Go.RowKit

def CpE (w : World) (xs : List EntryM) (e : Ending) (w' : World) : Prop := ∃ v css bls, e = .returned v ∧ PE w.heap.size w' v xs css bls ∧ Below w.heap.size w w'
theorem ent_own {w : World} {s : ByteArray} {a : Int} {v : Value} {ops : List OpM} {bl : List Nat} (hs : s.size ≤ maxLen) (h : shAlgebra.own w [.int .i64 a, v] (a, ops) bl) : shEntry.own w [.string s, .int .i64 a, v] (s, (a, ops)) bl :=
  ⟨[.string s], [.int .i64 a, v], [], bl, rfl, rfl, ⟨_, rfl, ⟨rfl, hs⟩, rfl⟩, h⟩
set_option maxRecDepth 100000 in
set_option maxHeartbeats 8000000 in
theorem cloneEntries_any (A : Option Addr) (n c : Nat) (xs : List EntryM) (w : World) (h : RdN shEntry.m shEntry.rd w A n xs) (hn : xs.length + cntS shEntry.cnt xs ≤ 1048576) :
    Calls Try.prog 45 #[.slice A n c] w (CpE w xs) := by
  obtain rfl : xs.length = n := h.len
  have HCN := Lib.hid hn
  have hle : xs.length ≤ 1048576 := by omega
  have hP0 : PE w.heap.size (w.alloc (.cells #[] 64)) (.slice (some ⟨w.heap.size, 0, none⟩) 0 0) (xs.take 0) [] [] := PE.lit (Nat.le_refl _)
  have hT0 : Below w.heap.size w (w.alloc (.cells #[] 64)) := below_box _ _
  clear hn
  go_enter Try.func45, Try.ntmps45
  go_wp2_with fail
  go_loopw [3, 9] (fun v i wr => ∃ (k : Nat) (css : List (List Value)) (bls : List (List Nat)), k ≤ xs.length ∧ i = .int .i64 k ∧ PE w.heap.size wr v (xs.take k) css bls ∧ Below w.heap.size w wr) (fun _ i _ => xs.length - (intOf i).toNat)
  case atStart => exact ⟨0, _, _, Nat.zero_le _, rfl, hP0, hT0⟩
  case round =>
    clear hP0 hT0
    obtain ⟨k, css, bls, hk, rfl, hPE, hT⟩ := hrel
    by_cases hlt : k < xs.length
    · have hk0 : (0 : Int) ≤ (k : Int) := by omega
      have hk1 : (k : Int) < (xs.length : Int) := by omega
      obtain ⟨b, o, vs, y, rfl, -, hc, hr, -, hx⟩ := (h.next hT).at hlt
      obtain ⟨Bm, m, d, rfl, hsz, hIn, hops⟩ := rdEntry hr
      have cc0 : wr.cell? ⟨b, o + k * 3, none⟩ = some (.string y.1) := hc 0 _ rfl
      have cc1 : wr.cell? ⟨b, o + k * 3 + 1, none⟩ = some (.int .i64 y.2.1) := hc 1 _ rfl
      have cc2 : wr.cell? ⟨b, o + k * 3 + 2, none⟩ = some (.slice Bm m d) := hc 2 _ rfl
      have hral := mkAlgebra (cOps := d) hIn hops
      have HTS : Hid (xs.take (k + 1) = xs.take k ++ [y]) := take_snoc hx
      have hcy : shAlgebra.cnt y.2 ≤ 1048576 := by
        have h1 := cntS_mem (f := shEntry.cnt) (List.mem_of_getElem? hx)
        have h2 := HCN.out
        have h3 : shEntry.cnt y = y.1.size + shAlgebra.cnt y.2 := rfl
        omega
      obtain ⟨L, HL⟩ : ∃ L, Hid (xs.take k = L) := ⟨_, rfl⟩
      have HLK : Hid (L.length = k) := by show _ = _; rw [← HL.out, List.length_take]; omega
      rw [HL.out] at hPE
      have HTS2 : Hid (xs.take (k + 1) = L ++ [y]) := by show _ = _; rw [HTS.out, HL.out]
      obtain ⟨A, c, rfl⟩ := own_slice hPE.2.1
      obtain ⟨w5, HW5⟩ : ∃ wb, Hid (wb = wr.alloc (.cells #[.string y.1, .int .i64 y.2.1, .slice Bm m d] 64)) := ⟨_, rfl⟩
      have T5 : Below wr.heap.size wr w5 := by rw [HW5.out]; exact below_box _ _
      have BY : Blk w5 wr.heap.size 64 #[.string y.1, .int .i64 y.2.1, .slice Bm m d] := by rw [HW5.out]; exact Blk.new _ _ _
      have hP5 := hPE.next T5
      have hr5 := shAlgebra.stab hral T5.block
      have hT5 := below_next hT T5 rfl
      have cY0 := BY.cell 0
      have cY1 := BY.cell 1
      have cY2 := BY.cell 2
      simp at cY0 cY1 cY2
      have hwz0 := hT5.size
      clear hc hx hr hPE hops
      go_upto_region 5 with fail
      rw [← HW5.out]
      clear cc0 cc1 cc2
      go_region_law (first
        | (refine step_app3 w6 rfl (.tmp 13) (.tmp 20) 24 64 rfl (.agg #[.string ⟨#[]⟩, .int .i64 0, .slice none 0 0]) 48 Try.underlying24 info_entry3 rfl (by decide) w.heap.size L.length c A css.flatten (by rfl) hvs (.string y.1) (.int .i64 y.2.1) (.slice B6 m6 d6) rfl rfl rfl (by rfl) (by have := HLK.out; omega) (by omega) ?_; intro A8 c8 w8 hown8 hg8 hb8)
        | (go_simp; go_at_call 98; refine (cloneAlgebra_any [.int .i64 y.2.1, .slice Bm m d] y.2 _ (by first | exact hr5 | exact shAlgebra.stab hr5 (fun _ _ => rfl)) hcy).mono ?_; rintro e w6 ⟨v6, css6, bls6, rfl, hP6, hbn⟩; obtain ⟨B6, d6, rfl⟩ := own_slice hP6.2.1; obtain ⟨m6, HM6⟩ : ∃ m6, Hid (y.2.2.length = m6) := ⟨_, rfl⟩; have hO6 := ent_own (s := y.1) hsz (hP6.algO (a := y.2.1) hIn); rw [HM6.out] at hO6; rw [HM6.out]; have hb := below_next (Below.drew (Below.refl w5.heap.size w5)) hbn rfl; have hiv6 : Iv w5.heap.size w6.heap.size _ := hP6.2.2; rw [HM6.out] at hiv6; obtain ⟨hvs, HPU⟩ := hP5.push hb hwz0 hO6 hiv6; have hsz6 := hb.size; have dY0 := (BY.next hb).cell 0; have dY1 := (BY.next hb).cell 1; have dY2 := (BY.next hb).cell 2; simp at dY0 dY1 dY2))
      all_goals
        have PN2 := HPU hown8 hg8
        have hT8 := (below_next hT5 hb rfl).trans hb8
        have HFIN := Lib.hid (And.intro PN2 hT8)
        clear PN2 hT8 hown8 hg8 hb8 hvs HPU
        go_wp2_with fail
        go_roundw
        case rel => exact ⟨k + 1, _, _, by omega, by go_num, by rw [HTS2.out]; exact HFIN.out.1, HFIN.out.2⟩
        case measure => simp [intOf]; omega
    · have hlt' : ¬ (k : Int) < (xs.length : Int) := by omega
      have HE : Hid (xs.take k = xs) := List.take_of_length_le (by omega)
      rw [HE.out] at hPE
      have HP := Lib.hid hPE
      clear hPE
      go_wp2_with fail
      go_ret
      exact ⟨_, _, _, rfl, HP.out, hT⟩
end Go.Proofs.Ytbpdbimdefdefaa
