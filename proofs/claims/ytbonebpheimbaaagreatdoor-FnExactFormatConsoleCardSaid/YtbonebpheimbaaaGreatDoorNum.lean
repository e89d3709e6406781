
/- Walks: numerals (the reference's, and the library's Itoa), over the texts of the shapes. -/
import Derived.Test.YtbonebpheimbaaaGreatDoorShelf
import Derived.Test.YtbonebpheimbaaaGreatDoorList
import Derived.Lib.AppendIntMem
import Derived.Deep.RegionHeld3
import Derived.Deep.RegionWith
import Derived.Deep.DeepFit
import Derived.Lib.ItoaNum
import Derived.Lib.ItoaMem
import Derived.Lib.IndexMore
import Derived.Lib.Strings
import Derived.Sort.Grow
import Derived.IntWalk
import Derived.Laws.Concat
import Derived.Lib.Builder
import Derived.Lib.OthersKept
import Derived.Shelf.Strings.Builder1
import Derived.Shelf.Strings.BuilderK
import Derived.Test.YtbonebpheimbaaaGreatDoorTermP
namespace Go.Proofs.YtbonebpheimbaaaGreatDoor
open Go.RowKit

abbrev Bs := List UInt8
def mk (l : Bs) : ByteArray := ⟨l.toArray⟩
theorem bs_of (l : Bs) : bs (mk l) = l := rfl
theorem mk_of (s : ByteArray) : mk (bs s) = s := bs_inj rfl
theorem mk_eq {s : ByteArray} {l : Bs} (h : bs s = l) : s = mk l := bs_inj h
theorem bs_app (a b : ByteArray) : bs (a ++ b) = bs a ++ bs b := by
  unfold bs
  rw [ByteArray.data_append, Array.toList_append]
theorem bs_ext (s : ByteArray) (i j : Nat) : bs (s.extract i j) = ((bs s).drop i).take (j - i) := Lib.extract_data s i j
theorem size_bs (s : ByteArray) : s.size = (bs s).length := rfl
theorem size_mk (l : Bs) : (mk l).size = l.length := rfl
/-- A concatenation, as the walk meets it. -/
theorem cat (a b : ByteArray) (h : a.size + b.size ≤ 1099511627776) : ∀ w, (Op.stringOp .add a b).run Tryz.prog w = .ok (.string (a ++ b)) w := fun w => run_string_add_sum w a b (by omega)
theorem size_app (a b : ByteArray) : (a ++ b).size = a.size + b.size := by rw [size_bs, bs_app, List.length_append]; rfl
theorem ndig_le {u : Nat} (h : u < 1000000) : Lib.nDigits u ≤ 6 := by
  rcases Nat.lt_or_ge u 10 with h1 | h1
  · rw [Lib.nDigits_small h1]; omega
  rw [Lib.nDigits_big (by omega)]
  rcases Nat.lt_or_ge (u / 10) 10 with h2 | h2
  · rw [Lib.nDigits_small h2]; omega
  rw [Lib.nDigits_big (by omega)]
  rcases Nat.lt_or_ge (u / 10 / 10) 10 with h3 | h3
  · rw [Lib.nDigits_small h3]; omega
  rw [Lib.nDigits_big (by omega)]
  rcases Nat.lt_or_ge (u / 10 / 10 / 10) 10 with h4 | h4
  · rw [Lib.nDigits_small h4]; omega
  rw [Lib.nDigits_big (by omega)]
  rcases Nat.lt_or_ge (u / 10 / 10 / 10 / 10) 10 with h5 | h5
  · rw [Lib.nDigits_small h5]; omega
  rw [Lib.nDigits_big (by omega), Lib.nDigits_small (by omega)]
  omega
theorem dec_len {u : Nat} (h : u < 1000000) : (Lib.decDigits u).length ≤ 6 := by rw [Lib.decDigits_length]; exact ndig_le h
/-- The library's table of powers of ten reads as its initialiser lays it. -/
def Tab (w : World) : Prop := Lib.TabIs Tryz.prog w "internal/strconv.uint64pow10" .u64 Lib.pow10Tab
theorem Tab.next {w w' : World} (h : Tab w) (hb : Below w.heap.size w w') : Tab w' := (Lib.tabBelow_of_tabIs h) w' hb
theorem Tab.drewN {w : World} (h : Tab w) (n : Nat) : Tab (w.drewN n) := h.next (below_drewN (Below.refl _ _) _)
theorem below_grow (w : World) (os : Array Obj) (k : Nat) : Below w.heap.size w (Sort.grow (w.drewN k) os) := by
  refine ⟨rfl, rfl, rfl, ?_, fun i hi => ?_⟩
  · show w.heap.size ≤ (w.heap ++ os).size
    rw [Array.size_append]; omega
  · show (w.heap ++ os)[i]? = w.heap[i]?
    rw [Array.getElem?_append_left hi]

theorem itoa_any (n : Nat) (hn : n < 9223372036854775807) (w : World) (ht : Tab w) :
    Calls Tryz.prog 27 #[.int .i64 n] w (Bl w (.string (mk (Lib.decDigits n)))) := by
  refine (Tryz.strconv_Itoa (n : Int) (by omega) (by omega) w ht).mono fun _ _ ⟨he, k, os, hw⟩ => ⟨?_, ?_⟩
  · rw [he, Lib.itoa_nonneg]; rfl
  · rw [hw]; exact below_grow _ _ _
theorem itoa_small (n : Nat) (hn : n < 100) (w : World) :
    Calls Tryz.prog 27 #[.int .i64 n] w (Qt w (.string (mk (Lib.decDigits n)))) :=
  (Tryz.strconv_Itoa_small n hn w).mono fun _ _ ⟨he, hw⟩ => ⟨he, 0, hw⟩

/-! ## the reference's numeral -/
theorem digit_piece {i : Nat} (h : i < 10) : ((([48, 49, 50, 51, 52, 53, 54, 55, 56, 57] : Bs).drop i).take (i + 1 - i)) = [UInt8.ofNat (48 + i)] := by
  have : ∀ i : Fin 10, ((([48, 49, 50, 51, 52, 53, 54, 55, 56, 57] : Bs).drop i.val).take (i.val + 1 - i.val)) = [UInt8.ofNat (48 + i.val)] := by decide
  exact this ⟨i, h⟩
theorem num_small {n : Nat} (h : n < 10) : (⟨#[48, 49, 50, 51, 52, 53, 54, 55, 56, 57]⟩ : ByteArray).extract n (n + 1) = mk (Lib.decDigits n) := by
  apply mk_eq
  rw [bs_ext, Lib.decDigits_one h]
  exact digit_piece h
theorem num_big {n : Nat} (h : ¬ n < 10) : mk (Lib.decDigits (n / 10)) ++ (⟨#[48, 49, 50, 51, 52, 53, 54, 55, 56, 57]⟩ : ByteArray).extract (n % 10) (n % 10 + 1) = mk (Lib.decDigits n) := by
  apply mk_eq
  rw [bs_app, bs_ext, bs_of, Lib.decDigits.eq_def n, dif_neg h]
  congr 1
  exact digit_piece (Nat.mod_lt _ (by decide))

set_option maxHeartbeats 1000000 in
theorem l1Num_any (n : Nat) : ∀ (_hn : n < 1000000) (w : World), Calls Tryz.prog 23 #[.int .i64 n] w (Qt w (.string (mk (Lib.decDigits n)))) := by
  induction n using Nat.strongRecOn with
  | _ n ih =>
    intro hn w
    by_cases h10 : n < 10
    · have HD := Lib.hid (num_small h10)
      have hi0 : (0 : Int) ≤ (n : Int) := by omega
      have hi1 : (n : Int) < 10 := by omega
      clear ih
      go_enter Tryz.func23, Tryz.ntmps23
      go_wp2
      go_ret
      exact ⟨ret_str HD.out, 0, rfl⟩
    · have HD := Lib.hid (num_big h10)
      have hr := ih (n / 10) (by omega) (by omega)
      have hi0 : (10 : Int) ≤ (n : Int) := by omega
      have f1 : IntKind.i64.wrap ((n : Int) / 10) = (n : Int) / 10 := IntWalk.i64_in _ (by omega)
      have f2 : (n : Int).tmod 10 = (n : Int) % 10 := rfl
      have f3 : IntKind.i64.wrap ((n : Int) % 10 + 1) = (n : Int) % 10 + 1 := IntWalk.i64_in _ (by omega)
      have b0 : (0 : Int) ≤ (n : Int) % 10 := by omega
      have b1 : (n : Int) % 10 + 1 ≤ 10 := by omega
      have b2 : (n : Int) % 10 ≤ 9 := by omega
      have b3 : (n : Int) % 10 < 10 := by omega
      have b4 : (0 : Int) ≤ (n : Int) % 10 + 1 := by omega
      have b5 : (n : Int) % 10 + 1 ≤ ((⟨#[48, 49, 50, 51, 52, 53, 54, 55, 56, 57]⟩ : ByteArray).size : Int) := b1
      have hsl : ∀ w, (Instr.slice 9 (.string ⟨#[48, 49, 50, 51, 52, 53, 54, 55, 56, 57]⟩) (some (.int .i64 ((n : Int) % 10))) (some (.int .i64 ((n : Int) % 10 + 1))) none).run Tryz.prog w = .ok (.string ((⟨#[48, 49, 50, 51, 52, 53, 54, 55, 56, 57]⟩ : ByteArray).extract (n % 10) (n % 10 + 1))) w := fun w => by
        have := run_slice_string (P := Tryz.prog) (w := w) 9 ⟨#[48, 49, 50, 51, 52, 53, 54, 55, 56, 57]⟩ .i64 .i64 ((n : Int) % 10) ((n : Int) % 10 + 1) Tryz.underlying9 b0 (by omega) b1
        rw [this]
        have e1 : ((n : Int) % 10).toNat = n % 10 := by omega
        have e2 : ((n : Int) % 10 + 1).toNat = n % 10 + 1 := by omega
        rw [e1, e2]
      have hr' : ∀ w, Calls Tryz.prog 23 #[.int .i64 ((n : Int) / 10)] w (Qt w (.string (mk (Lib.decDigits (n / 10))))) := hr
      have kc := cat (mk (Lib.decDigits (n / 10))) ((⟨#[48, 49, 50, 51, 52, 53, 54, 55, 56, 57]⟩ : ByteArray).extract (n % 10) (n % 10 + 1)) (by
        have h1 := dec_len (u := n / 10) (by omega)
        rw [size_mk, size_bs, bs_ext, List.length_take]
        omega)
      clear ih h10
      go_enter Tryz.func23, Tryz.ntmps23
      go_wp2
      go_quiet ((go_at_call 23; (first | exact quiet_one (hr' _) | exact quiet_add (hr' _))))
      go_wp2
      go_ret
      exact ⟨ret_str HD.out, (by first | exact Drawn.zero _ | exact Drawn.at_ _ _ | exact (Drawn.at_ _ _).more _ | exact ((Drawn.at_ _ _).more _).more _)⟩

/-- A numeral as the call tells it. -/
def numS (n : Nat) : ByteArray := mk (Lib.decDigits n)
theorem numS_size {n : Nat} (h : n < 1000000) : (numS n).size ≤ 6 := dec_len h
theorem catx (a b : ByteArray) (n m : Nat) (ha : a.size ≤ n) (hb : b.size ≤ m) (h : n + m ≤ 1000000) : ∃ s, Hid (a ++ b = s) ∧ (∀ w, (Op.stringOp .add a b).run Tryz.prog w = .ok (.string s) w) ∧ s.size ≤ n + m :=
  ⟨a ++ b, rfl, cat a b (by omega), by rw [size_app]; omega⟩
end Go.Proofs.YtbonebpheimbaaaGreatDoor
namespace Go.Proofs.YtbonebpheimbaaaGreatDoor
open Go.RowKit
set_option linter.unusedVariables false

/-- A builder in block b that holds l; its bytes lie above b. -/
def Bd (w : World) (b : Nat) (l : Bs) : Prop := Lib.IsBuilder 67 5 b b (Lib.byteCells l) w
/-- Nothing below b turns, nor what is neither the builder nor a row of bytes. -/
def Kb (b : Nat) (w w' : World) : Prop := Below b w w' ∧ Lib.OthersKept 5 (some b) w w'
theorem Kb.refl (b : Nat) (w : World) : Kb b w w := ⟨Below.refl _ _, Lib.OthersKept.refl _ _ _⟩
theorem Kb.trans {b : Nat} {a c d : World} (h : Kb b a c) (k : Kb b c d) : Kb b a d := ⟨h.1.trans k.1, h.2.trans k.2⟩
theorem Bd.new (w : World) : Bd (w.alloc (.cells #[.pointer none, .slice none 0 0] 67)) w.heap.size [] :=
  .inl ⟨Nat.le_refl _, .slice none 0 0, Blk.new w 67 #[.pointer none, .slice none 0 0], World.ownsRow_nil _ _ _ _, by simp [Value.ownBlock]⟩
theorem Bd.lt {w : World} {b : Nat} {l : Bs} (h : Bd w b l) : b < w.heap.size := by
  rcases h with ⟨_, v, hb, _⟩ | ⟨_, v, hb, _⟩
  · exact (Array.getElem?_eq_some_iff.1 hb).1
  · exact (Array.getElem?_eq_some_iff.1 hb).1
theorem Bd.next {w w' : World} {b : Nat} {l : Bs} (h : Bd w b l) (hb : Below w.heap.size w w') : Bd w' b l := by
  have hlt := h.lt
  rcases h with ⟨h1, v, h2, h3, h4⟩ | ⟨h1, v, h2, h3, h4⟩
  · exact .inl ⟨h1, v, (hb.block b hlt).trans h2, own_next h3 hb, h4⟩
  · exact .inr ⟨h1, v, (hb.block b hlt).trans h2, own_next h3 hb, h4⟩
theorem Bd.drw {w : World} {b : Nat} {l : Bs} (h : Bd w b l) : Bd w.drew b l := h.next (Below.drew (Below.refl _ _))
theorem kb_next {w w' : World} {b : Nat} (hlt : b < w.heap.size) (hb : Below w.heap.size w w') : Kb b w w' :=
  ⟨⟨hb.os, hb.tape, hb.output, hb.size, fun i hi => hb.block i (by omega)⟩, fun k o hk _ _ => (hb.block k (Array.getElem?_eq_some_iff.1 hk).1).trans hk⟩
set_option maxRecDepth 100000 in
set_option maxHeartbeats 1000000 in
theorem copyCheck_any (b : Nat) (l : Bs) (w : World) (h : Bd w b l) :
    Calls Tryz.prog 42 #[.pointer (some ⟨b, 0, none⟩)] w fun e w' => e = .returned (.tuple #[]) ∧ Lib.BuilderAt 67 5 b b (.pointer (some ⟨b, 0, none⟩)) (Lib.byteCells l) w' ∧ Kb b w w' := by
  obtain ⟨j, hj, hjs⟩ := Option.map_eq_some_iff.1 (show (Tryz.prog.info? 67).map (·.size) = some 2 by kernel_rfl)
  have hlt := h.lt
  rcases h with h | h
  · have h0 := h.cell0
    have hsh := h.shape
    have hfz := h.frozen0
    have HU := Lib.hid (h.used (.pointer (some ⟨b, 0, none⟩)))
    have T1 : Kb b w (w.setCell ⟨b, 0, none⟩ (.pointer (some ⟨b, 0, none⟩))) := ⟨(Below.refl b w).setCell (p := ⟨b, 0, none⟩) (Nat.le_refl _) _, (Lib.OthersKept.refl _ _ w).setCell ⟨b, 0, none⟩ rfl _⟩
    clear h
    go_enter Tryz.func42, Tryz.ntmps42
    go_wp2
    rw [Lib.run_to_unsafe w ⟨b, 0, none⟩ Tryz.underlying64 Tryz.underlying115 hj (by rw [hjs]; decide) hsh (Nat.zero_lt_succ 1)]
    simp only [Result.andThen]
    rw [Oper.upon_value]
    go_wp2
    rw [run_callFunc_extern Tryz.func69 (by kernel_rfl) (by kernel_rfl) (by kernel_rfl) (e := Extern.AbiNoEscape.same) (by kernel_rfl)]
    rw [Lib.run_noEscape]
    simp only [Result.andThen]
    rw [Oper.upon_value]
    go_wp2
    rw [Lib.run_from_unsafe w ⟨b, 0, none⟩ Tryz.underlying115 Tryz.underlying64 hj hsh (by kernel_rfl)]
    simp only [Result.andThen]
    rw [Oper.upon_value]
    go_wp2
    go_end0
    exact ⟨rfl, HU.out, T1⟩
  · have h0 := h.cell0
    go_enter Tryz.func42, Tryz.ntmps42
    go_wp2
    rw [Lib.run_neq_ptr_same w _ Tryz.underlying64 hj]
    go_wp2
    go_end0
    exact ⟨rfl, h, Kb.refl _ _⟩
set_option maxRecDepth 100000 in
set_option maxHeartbeats 2000000 in
theorem writeString_any (b : Nat) (l : Bs) (s : ByteArray) (w : World) (h : Bd w b l) (hl : l.length + s.size ≤ 1000000000) :
    Calls Tryz.prog 24 #[.pointer (some ⟨b, 0, none⟩), .string s] w fun e w' => e = .returned (.tuple #[.int .i64 s.size, .nilIface]) ∧ Bd w' b (l ++ bs s) ∧ Kb b w w' := by
  obtain ⟨i0, hi, hz0, hz1, hz2⟩ := info_parts (show (Tryz.prog.info? 5).map (fun i => (i.zero, i.size, i.bytes)) = some (some (.int .u8 0), 1, 1) by kernel_rfl)
  have hlt := h.lt
  go_enter Tryz.func24, Tryz.ntmps24
  go_wp2_with fail
  refine (copyCheck_any b l _ h).mono ?_
  rintro e w1 ⟨rfl, h1, hb1⟩
  obtain ⟨hB, v, hbk, hown, hne⟩ := h1
  have c0 : w1.cell? ⟨b, 0, none⟩ = some (.pointer (some ⟨b, 0, none⟩)) := by rw [Lib.cell_of_heap hbk]; rfl
  have c1 : w1.cell? ⟨b, 1, none⟩ = some v := by rw [Lib.cell_of_heap hbk]; rfl
  have hz1' := hb1.1.size
  have hlen : (Lib.byteCells l).length = l.length := Lib.byteCells_length l
  go_wp2_with (at_builtin; refine Lib.wpList_append_own_string _ rfl _ _ 65 9 rfl b 5 i0 Tryz.underlying65 Tryz.underlying9 hi hz0 hz1 hz2 _ _ _ rfl hown s rfl ?c3 ?c4 ?c5 ?_)
  case c3 => unfold maxLen; omega
  case c4 => omega
  case c5 => omega
  intro v' w2 hown' hgrow _
  have hlt1 : b < w1.heap.size := by omega
  have hb2 : w2.heap[b]? = some (.cells #[.pointer (some ⟨b, 0, none⟩), v] 67 (0, 0)) := (hgrow.block b hlt1 (fun e => hne e.symm)).trans hbk
  have d0 : w2.cell? ⟨b, 0, none⟩ = some (.pointer (some ⟨b, 0, none⟩)) := by rw [Lib.cell_of_heap hb2]; rfl
  have d1 : w2.cell? ⟨b, 1, none⟩ = some v := by rw [Lib.cell_of_heap hb2]; rfl
  have f1 : w2.frozen? ⟨b, 1, none⟩ = false := Lib.frozen_of_heap hb2 1
  obtain ⟨ao, n', cap, rfl⟩ : ∃ ao n' cap, v' = .slice ao n' cap := by
    rcases hown'.2 with ⟨hv, _⟩ | ⟨g, cap, cur, hv, _⟩
    · exact ⟨_, _, _, hv⟩
    · exact ⟨_, _, _, hv⟩
  go_wp2
  go_ret2
  refine ⟨rfl, .inr ?_, hb1.trans ⟨((Below.refl b w1).grown hgrow (by omega) (fun k hk => (hown.lt k hk).1)).setCell (p := ⟨b, 1, none⟩) hB _, ((Lib.OthersKept.refl _ _ w1).grown hgrow (Lib.ownsRowF_kind (World.ownsRowF_of hown))).setCell ⟨b, 1, none⟩ rfl _⟩⟩
  have e1 : Lib.byteCells (l ++ bs s) = Lib.byteCells l ++ Lib.strCells s := by rw [Lib.strCells_eq]; unfold Lib.byteCells bs; rw [List.map_append]
  rw [e1]
  exact Lib.BuilderAt.put (T := 67) (e := 5) hB hb2 (bs' := Lib.byteCells l ++ Lib.strCells s) (by rw [List.length_append, Lib.strCells_length, hlen]; exact hown') (by decide)
theorem string_any (b : Nat) (l : Bs) (w : World) (h : Bd w b l) :
    Calls Tryz.prog 28 #[.pointer (some ⟨b, 0, none⟩)] w fun e w' => e = .returned (.string (mk l)) ∧ Below b w w' :=
  Tryz.Builder_String_any b b l w h (Nat.le_of_lt h.lt)
end Go.Proofs.YtbonebpheimbaaaGreatDoor
namespace Go.Proofs.YtbonebpheimbaaaGreatDoor
open Go.RowKit
set_option linter.unusedVariables false

/-- Texts with commas between them. -/
def joinC : List Bs → Bs
  | [] => []
  | [t] => t
  | t :: u :: l => t ++ [44] ++ joinC (u :: l)
/-- What a loop has written behind k of the texts: "(" or "," ahead of each. -/
def parTo : List Bs → Nat → Bs
  | _, 0 => []
  | ts, k + 1 => parTo ts k ++ (if k = 0 then [40] else [44]) ++ ts.getD k []
def parS (ts : List Bs) : Bs := if ts.length = 0 then [] else parTo ts ts.length ++ [41]
def txS (ops : List OpM) : List Int → List Bs
  | [] => []
  | v :: l => if 0 ≤ v then ([120] ++ Lib.decDigits v.toNat) :: txS ops l
    else ([102] ++ Lib.decDigits (-1 - v).toNat ++ parS ((txS ops l).take (arF ops v))) :: (txS ops l).drop (arF ops v)
def txT (ops : List OpM) (t : List Int) : Bs := (txS ops t).headD []
theorem txS_len {ops : List OpM} : ∀ {l : List Int} {m : Nat}, GoodS ops l m → (txS ops l).length = m
  | [], m, h => by rw [h.nil]; rfl
  | v :: l, m, h => by
    obtain ⟨h0, hb, h1⟩ := h.cons
    have ih := txS_len h1
    rw [txS]
    unfold adV at ih
    split
    · rename_i hv
      rw [if_pos hv] at ih
      rw [List.length_cons]; omega
    · rename_i hv
      rw [if_neg hv] at ih
      rw [List.length_cons, List.length_drop]; omega
theorem endT_sub {ops : List OpM} : ∀ {l : List Int} {m j q : Nat}, GoodS ops l m → j ≤ m → endT ops l j = some q → GoodS ops (l.drop q) (m - j) ∧ txS ops (l.drop q) = (txS ops l).drop j ∧ (j = 0 → q = 0)
  | [], m, j, q, h, hj, he => by
    have := h.nil
    subst this
    obtain rfl : j = 0 := by omega
    rw [endT_zero] at he
    injection he with he
    subst he
    exact ⟨h, rfl, fun _ => rfl⟩
  | v :: l, m, j, q, h, hj, he => by
    rcases Nat.eq_zero_or_pos j with h0 | h0
    · subst h0
      rw [endT_zero] at he
      injection he with he
      subst he
      exact ⟨h, rfl, fun _ => rfl⟩
    · obtain ⟨hm, hb, h1⟩ := h.cons
      rw [endT_cons h0, hb] at he
      rcases e : endT ops l (j - 1 + adV ops v) with _ | q'
      · rw [e] at he; cases he
      · rw [e] at he
        have hq : q' + 1 = q := by simpa using he
        subst hq
        obtain ⟨g1, g2, -⟩ := endT_sub h1 (by omega) e
        have em : m - 1 + adV ops v - (j - 1 + adV ops v) = m - j := by omega
        rw [em] at g1
        refine ⟨g1, ?_, by omega⟩
        rw [List.drop_succ_cons, g2, txS]
        obtain ⟨j', rfl⟩ : ∃ j', j = j' + 1 := ⟨j - 1, by omega⟩
        unfold adV
        split
        · rw [List.drop_succ_cons]; simp
        · rw [List.drop_succ_cons, List.drop_drop]; congr 1; omega
theorem endT_some {ops : List OpM} : ∀ {l : List Int} {m j : Nat}, GoodS ops l m → j ≤ m → ∃ q, endT ops l j = some q ∧ q ≤ l.length
  | [], m, j, h, hj => by
    have := h.nil
    obtain rfl : j = 0 := by omega
    exact ⟨0, endT_zero _ _, Nat.zero_le _⟩
  | v :: l, m, j, h, hj => by
    rcases Nat.eq_zero_or_pos j with h0 | h0
    · subst h0
      exact ⟨0, endT_zero _ _, Nat.zero_le _⟩
    · obtain ⟨hm, hb, h1⟩ := h.cons
      obtain ⟨q, e, hq⟩ := endT_some h1 (show j - 1 + adV ops v ≤ m - 1 + adV ops v by omega)
      refine ⟨q + 1, ?_, by rw [List.length_cons]; omega⟩
      rw [endT_cons h0, hb, e]
      rfl
/-- The first term of a list of terms. -/
theorem endT_first {ops : List OpM} {l : List Int} {m q : Nat} (h : GoodS ops l m) (hm : 0 < m) (he : endT ops l 1 = some q) : GoodS ops (l.take q) 1 ∧ 0 < q := by
  have hq : q ≤ l.length := endT_le he
  have key : ∀ {l : List Int} {j q : Nat}, endT ops l j = some q → endT ops (l.take q) j = some q := by
    intro l
    induction l with
    | nil =>
      intro j q he
      rw [List.take_nil]
      exact he
    | cons v l ih =>
      intro j q he
      rcases Nat.eq_zero_or_pos j with h0 | h0
      · subst h0
        rw [endT_zero] at he ⊢
        exact he
      · rw [endT_cons h0] at he
        split at he
        · cases he
        · rename_i hb
          rcases e : endT ops l (j - 1 + adV ops v) with _ | q'
          · rw [e] at he; cases he
          · rw [e] at he
            have hq : q' + 1 = q := by simpa using he
            subst hq
            rw [List.take_succ_cons, endT_cons h0, if_neg hb, ih e]
            rfl
  refine ⟨?_, ?_⟩
  · unfold GoodS
    rw [key he, List.length_take, Nat.min_eq_left hq]
  · rcases l with _ | ⟨v, l⟩
    · rw [endT_nil ops (by decide)] at he; cases he
    · rw [endT_cons (by decide)] at he
      split at he
      · cases he
      · rcases e : endT ops l (1 - 1 + adV ops v) with _ | q'
        · rw [e] at he; cases he
        · rw [e] at he
          have hq : q' + 1 = q := by simpa using he
          omega
theorem txS_app {ops : List OpM} : ∀ {p r : List Int} {m : Nat}, GoodS ops p m → txS ops (p ++ r) = txS ops p ++ txS ops r
  | [], r, m, h => rfl
  | v :: p, r, m, h => by
    obtain ⟨hm, hb, h1⟩ := h.cons
    have ih := txS_app (r := r) h1
    have hl := txS_len h1
    rw [List.cons_append, txS, txS, ih]
    unfold adV at hl
    split
    · rfl
    · rename_i hv
      rw [if_neg hv] at hl
      rw [List.take_append_of_le_length (by omega), List.drop_append_of_le_length (by omega)]
      rfl
theorem txT_take {ops : List OpM} {l : List Int} {m q : Nat} (h : GoodS ops l m) (hm : 0 < m) (he : endT ops l 1 = some q) : txT ops (l.take q) = txT ops l := by
  obtain ⟨h1, h2⟩ := endT_first h hm he
  have e := txS_app (r := l.drop q) h1
  rw [List.take_append_drop] at e
  unfold txT
  rw [e]
  have hl := txS_len h1
  rcases e2 : txS ops (l.take q) with _ | ⟨a, b⟩
  · rw [e2] at hl; cases hl
  · rfl
/-! ## Sizes -/
def tot : List Bs → Nat
  | [] => 0
  | t :: l => t.length + tot l
theorem tot_app : ∀ a b : List Bs, tot (a ++ b) = tot a + tot b
  | [], b => by simp [tot]
  | t :: a, b => by rw [List.cons_append, tot, tot, tot_app a b]; omega
theorem tot_get : ∀ (ts : List Bs) (k : Nat), (ts.getD k []).length + tot (ts.take k) ≤ tot ts
  | [], k => by simp [tot]
  | t :: l, 0 => by simp [tot]
  | t :: l, k + 1 => by
    have := tot_get l k
    rw [List.take_succ_cons, tot, tot, List.getD_cons_succ]
    omega
theorem tot_take (ts : List Bs) (k : Nat) : tot (ts.take k) + tot (ts.drop k) = tot ts := by rw [← tot_app, List.take_append_drop]
theorem tot_snoc (ts : List Bs) {k : Nat} (hk : k < ts.length) : tot (ts.take (k + 1)) = tot (ts.take k) + (ts.getD k []).length := by
  rw [List.take_add_one, List.getElem?_eq_getElem hk, tot_app, List.getD_eq_getElem?_getD, List.getElem?_eq_getElem hk]
  simp [tot]
theorem parTo_len (ts : List Bs) : ∀ k, k ≤ ts.length → (parTo ts k).length = tot (ts.take k) + k
  | 0, _ => by simp [parTo, tot]
  | k + 1, h => by
    rw [parTo, tot_snoc ts (by omega), List.length_append, List.length_append, parTo_len ts k (by omega)]
    split <;> simp <;> omega
theorem parS_len (ts : List Bs) : (parS ts).length ≤ tot ts + ts.length + 1 := by
  unfold parS
  split
  · simp
  · rw [List.length_append, parTo_len ts _ (Nat.le_refl _), List.take_length]
    simp
theorem tot_txS {ops : List OpM} : ∀ {l : List Int} {m : Nat}, GoodS ops l m → (∀ o ∈ ops, o.1 ≤ 3) → ops.length ≤ 1000 → tot (txS ops l) ≤ 12 * l.length
  | [], m, h, ha, hk => by simp [txS, tot]
  | v :: l, m, h, ha, hk => by
    obtain ⟨hm, hb, h1⟩ := h.cons
    have ih := tot_txS h1 ha hk
    have hbv : v < 6 ∧ -(ops.length : Int) ≤ v := by
      unfold badV at hb
      rw [Bool.or_eq_false_iff, decide_eq_false_iff_not, decide_eq_false_iff_not] at hb
      omega
    rw [txS, List.length_cons]
    split
    · rename_i hv
      have := dec_len (u := v.toNat) (by omega)
      rw [tot, List.length_append]
      simp only [List.length_singleton]
      omega
    · rename_i hv
      have h2 := dec_len (u := (-1 - v).toNat) (by omega)
      have h3 := parS_len ((txS ops l).take (arF ops v))
      have h4 := tot_take (txS ops l) (arF ops v)
      have h5 : ((txS ops l).take (arF ops v)).length ≤ 3 := by
        rw [List.length_take]
        have : arF ops v ≤ 3 := by
          unfold arF
          rw [List.getD_eq_getElem?_getD]
          rcases e : ops[(-1 - v).toNat]? with _ | o
          · simp
          · have := ha o (List.mem_of_getElem? e)
            simp; omega
        omega
      rw [tot, List.length_append, List.length_append]
      simp only [List.length_singleton]
      omega
theorem endT_add {ops : List OpM} : ∀ {l : List Int} {j i q r : Nat}, endT ops l j = some q → endT ops (l.drop q) i = some r → endT ops l (j + i) = some (q + r)
  | [], j, i, q, r, h1, h2 => by
    rcases Nat.eq_zero_or_pos j with h0 | h0
    · subst h0
      rw [endT_zero] at h1
      injection h1 with h1
      subst h1
      rw [List.drop_nil] at h2
      rw [Nat.zero_add, Nat.zero_add]; exact h2
    · rw [endT_nil ops h0] at h1; cases h1
  | v :: l, j, i, q, r, h1, h2 => by
    rcases Nat.eq_zero_or_pos j with h0 | h0
    · subst h0
      rw [endT_zero] at h1
      injection h1 with h1
      subst h1
      rw [Nat.zero_add, Nat.zero_add]; exact h2
    · rw [endT_cons h0] at h1
      rw [endT_cons (by omega)]
      split at h1
      · cases h1
      · rename_i hb
        rw [if_neg hb]
        rcases e : endT ops l (j - 1 + adV ops v) with _ | q'
        · rw [e] at h1; cases h1
        · rw [e] at h1
          have hq : q' + 1 = q := by simpa using h1
          subst hq
          rw [List.drop_succ_cons] at h2
          have := endT_add e h2
          rw [show j + i - 1 + adV ops v = j - 1 + adV ops v + i by omega, this]
          show some (q' + r + 1) = some (q' + 1 + r)
          congr 1
          omega
/-- What lies behind the head of a list of terms whose first names an operation. -/
theorem tx_neg {ops : List OpM} {v : Int} {l : List Int} (hv : ¬ 0 ≤ v) : txT ops (v :: l) = [102] ++ Lib.decDigits (-1 - v).toNat ++ parS ((txS ops l).take (arF ops v)) ∧ tot (txS ops (v :: l)) = (txT ops (v :: l)).length + tot ((txS ops l).drop (arF ops v)) := by
  unfold txT
  rw [txS, if_neg hv]
  exact ⟨rfl, rfl⟩
theorem tx_pos {ops : List OpM} {v : Int} {l : List Int} (hv : 0 ≤ v) : txT ops (v :: l) = [120] ++ Lib.decDigits v.toNat ∧ tot (txS ops (v :: l)) = (txT ops (v :: l)).length + tot (txS ops l) := by
  unfold txT
  rw [txS, if_pos hv]
  exact ⟨rfl, rfl⟩
/-- The text written behind k of the parts. -/
def wTo (ts : List Bs) (ar k : Nat) : Bs := if k < ar then parTo ts k else parS ts
theorem wTo_zero {ts : List Bs} {ar : Nat} (h : ts.length = ar) : wTo ts ar 0 = [] := by
  unfold wTo
  split
  · rfl
  · unfold parS; rw [if_pos (by omega)]
theorem wTo_end {ts : List Bs} {ar : Nat} : wTo ts ar ar = parS ts := by unfold wTo; rw [if_neg (by omega)]
theorem wTo_mid {ts : List Bs} {ar k : Nat} (h : k + 1 < ar) : wTo ts ar (k + 1) = wTo ts ar k ++ (if k = 0 then [40] else [44]) ++ ts.getD k [] := by
  unfold wTo
  rw [if_pos h, if_pos (by omega), parTo]
theorem wTo_last {ts : List Bs} {ar k : Nat} (hl : ts.length = ar) (h : k + 1 = ar) : wTo ts ar (k + 1) = wTo ts ar k ++ (if k = 0 then [40] else [44]) ++ ts.getD k [] ++ [41] := by
  unfold wTo
  rw [if_neg (by omega), if_pos (by omega)]
  unfold parS
  rw [if_neg (by omega), hl, ← h, parTo]
theorem wTo_room {ts T : List Bs} {ar k : Nat} (hts : ts = T.take ar) (har : ar ≤ T.length) (hk : k < ar) : (wTo ts ar k).length + 1 + tot (T.drop k) ≤ (parS ts).length + tot (T.drop ar) := by
  have hl : ts.length = ar := by rw [hts, List.length_take]; omega
  have e1 : (wTo ts ar k).length = tot (ts.take k) + k := by unfold wTo; rw [if_pos hk, parTo_len ts k (by omega)]
  have e2 : (parS ts).length = tot ts + ar + 1 := by
    unfold parS
    rw [if_neg (by omega), List.length_append, parTo_len ts _ (Nat.le_refl _), List.take_length, hl]
    simp
  have e3 : T.drop k = ts.drop k ++ T.drop ar := by
    have : T = ts ++ T.drop ar := by rw [hts, List.take_append_drop]
    conv => lhs; rw [this]
    rw [List.drop_append_of_le_length (by omega)]
  have e4 := tot_take ts k
  rw [e1, e2, e3, tot_app]
  omega
theorem getD_of_drop {ts T : List Bs} {ar k : Nat} (hts : ts = T.take ar) (hk : k < ar) : (T.drop k).headD [] = ts.getD k [] := by
  rw [hts, List.getD_eq_getElem?_getD, List.getElem?_take, if_pos hk, List.headD_eq_head?_getD, List.head?_drop]
end Go.Proofs.YtbonebpheimbaaaGreatDoor
