
/- Walks: countForms, keyOf, CountUnary of the program and of the reference. -/
import Derived.Test.YtppnmpeicmlneaaCntP
import Derived.Test.YtppnmpeicmlneaaNameOf
import Derived.BigGuardPart
import Derived.Laws.IdiomStrings
import Derived.Lib.JoinLaws
import Derived.Deep.RegionHeld3
import Derived.Deep.DeepCutAuto
namespace Go.Proofs.Ytppnmpeicmlneaa
open Go.RowKit

/-! ## keyOf -/
def u8s (l : List UInt8) : List Value := l.map fun b => .int .u8 (b.toNat : Int)
theorem u8s_snoc2 (l : List UInt8) (a b : UInt8) : u8s (l ++ [a, b]) = u8s l ++ [.int .u8 (a.toNat : Int), .int .u8 (b.toNat : Int)] := by simp [u8s]
def RU (_ : World) (v : Value) (b : UInt8) : Prop := v = .int .u8 (b.toNat : Int)
def uV (b : UInt8) : Value := .int .u8 (b.toNat : Int)
theorem info_u8 : (Try.prog.info? 5).map (fun i => (i.zero, i.size, i.bytes)) = some (some (.int .u8 0), 1, 1) := by kernel_rfl
theorem rd_two (w : World) (a b : UInt8) : RdL RU (w.alloc (.cells #[uV a, uV b] 5)) (some ⟨w.heap.size, 0, none⟩) 2 [a, b] := by
  refine ⟨rfl, by decide, fun k x hk => ?_⟩
  match k, hk with
  | 0, hk => exact ⟨w.heap.size, 0, uV a, rfl, by simp, by simp at hk; subst hk; rfl⟩
  | 1, hk => exact ⟨w.heap.size, 0, uV b, rfl, by simp, by simp at hk; subst hk; rfl⟩
  | k + 2, hk => simp at hk
theorem take_snocK {α : Type} {l : List α} {k : Nat} {x : α} (h : l[k]? = some x) : l.take (k + 1) = l.take k ++ [x] := by rw [List.take_add_one, h]; rfl
theorem own_someK {w : World} {base n c : Nat} {e : TypeId} {A : Option Addr} {xs : List Value} (h : w.ownsRow base e 1 (.slice A n c) n xs) (hn : 0 < n) : A ≠ none := by
  rcases h.2 with ⟨h0, h1⟩ | ⟨g, cap, cur, hv, -⟩
  · omega
  · injection hv with hA _ _
    rw [hA]
    simp
theorem addr_add0 (g j : Nat) : (⟨g, 0, none⟩ : Addr).add j = ⟨g, j, none⟩ := by
  unfold Addr.add
  by_cases h : j = 0 <;> simp [h]
set_option maxRecDepth 100000 in
set_option maxHeartbeats 2000000 in
theorem keyOf_any (A : Option Addr) (n c : Nat) (xs : List Int) (w : World) (h : RdL RI w A n xs) (hb : ∀ v ∈ xs, 0 ≤ v ∧ v < 256) (hn : n ≤ 1048576) :
    Calls Try.prog 114 #[.slice A n c] w (Bl w (.string (keyS xs))) := by
  have hlen := h.len
  have hn2 : (2 : Int) * (n : Int) ≤ 2097152 := by omega
  have hmk := run_make_room (P := Try.prog) 138 5 (.int .u8 0) 1 Try.underlying138 (by kernel_rfl) rfl .i64 .i64 (2 * n) (by omega) (by omega) w
  rw [show ((2 * n : Nat) : Int) = 2 * (n : Int) by omega] at hmk
  obtain ⟨w0, hw0⟩ : ∃ w0, w0 = w.alloc (.cells (madeCells #[.int .u8 0] (2 * n)) 5) := ⟨_, rfl⟩
  have T0 : Below w.heap.size w w0 := by rw [hw0]; exact below_box _ _
  have O0 : w0.ownsRow w.heap.size 5 1 (.slice (some ⟨w.heap.size, 0, none⟩) 0 (2 * n)) 0 [] := by
    rw [hw0]
    refine ⟨rfl, .inr ⟨w.heap.size, 2 * n, _, rfl, Nat.le_refl _, heap_alloc_new w _, Nat.zero_le _, by unfold maxLen; omega, ?_, rfl⟩⟩
    simp [madeCells]
  rw [← hw0] at hmk
  clear hw0
  go_enter Try.func114, Try.ntmps114
  go_wp2_with fail
  go_loopw [3, 12] (fun v i wr => ∃ (k : Nat) (B : Option Addr) (d : Nat), k ≤ n ∧ i = .int .i64 k ∧ v = .slice B (2 * k) d ∧ B ≠ none ∧ wr.ownsRow w.heap.size 5 1 (.slice B (2 * k) d) (2 * k) ((keyB (xs.take k)).map uV) ∧ Below w.heap.size w wr) (fun _ i _ => n - (intOf i).toNat)
  case atStart => exact ⟨0, _, 2 * n, Nat.zero_le _, rfl, rfl, by simp, O0, T0⟩
  case round =>
    clear O0 T0
    obtain ⟨k, B, d, hk, rfl, rfl, hBn, hown, hT⟩ := hrel
    by_cases hlt : k < n
    · obtain ⟨b, o, v, x, rfl, hc, ⟨rfl, -⟩, -, hx⟩ := (h.next stab_RI hT).at hlt
      have hxb := hb x (List.mem_of_getElem? hx)
      have hk0 : (0 : Int) ≤ (k : Int) := by omega
      have hk1 : (k : Int) < (n : Int) := by omega
      have HX := Lib.hid hx
      have hrd := rd_two wr 0 (UInt8.ofNat x.toNat)
      have e0 : uV 0 = .int .u8 (x / 256) := by show Value.int .u8 0 = _; rw [show x / 256 = 0 by omega]
      have e1 : uV (UInt8.ofNat x.toNat) = .int .u8 x := by
        unfold uV
        rw [UInt8.toNat_ofNat', show ((x.toNat % 2 ^ 8 : Nat) : Int) = x by omega]
      rw [e0, e1] at hrd
      have hownA := own_next hown (below_box wr (.cells #[.int .u8 (x / 256), .int .u8 x] 5))
      have hbase : w.heap.size ≤ (wr.alloc (.cells #[.int .u8 (x / 256), .int .u8 x] 5)).heap.size := by have := hT.size; simp; omega
      have hT2 := below_next hT (below_box wr (.cells #[.int .u8 (x / 256), .int .u8 x] 5)) rfl
      clear hx e0 e1
      go_upto_region 5 with fail
      go_wp2_with (at_builtin; refine appAny _ rfl _ _ 138 5 rfl (.int .u8 0) 1 Try.underlying138 info_u8 rfl (by decide) w.heap.size (2 * k) d B ((keyB (xs.take k)).map uV) rfl hownA (some ⟨wr.heap.size, 0, none⟩) 2 2 [0, UInt8.ofNat x.toNat] uV (fun _ => rfl) rfl hrd (fun _ _ _ hr => hr) (by omega) hbase ?_; intro A2 c2 w2 hown2 hg2 hb2)
      go_roundw
      case rel => exact ⟨k + 1, A2, c2, by omega, by go_num, rfl, own_someK hown2 (by omega), by rw [take_snocK HX.out, keyB_snoc, List.map_append]; exact hown2, hT2.trans hb2⟩
      case measure => simp [intOf]; omega
    · obtain rfl : k = n := by omega
      have hk1 : ¬ (k : Int) < (k : Int) := by omega
      have HK : Hid (xs.take k = xs) := List.take_of_length_le (by omega)
      rw [HK.out] at hown
      have hl2 : (keyB xs).length = 2 * k := by rw [keyB_len, hlen]
      have hcv : (convert 138 9 (.slice B (2 * k) d)).run Try.prog wr = .ok (.string (keyS xs)) wr := by
        rw [← hl2]
        rcases hown.2 with ⟨h0, h1⟩ | ⟨g, cap, cur, hv, -⟩
        · injection h0 with h0 h2 h3
          exact absurd h0 hBn
        · injection hv with hA _ _
          subst hA
          exact run_convert_bytes_back (P := Try.prog) wr 138 9 5 ⟨g, 0, none⟩ d (keyB xs) Try.underlying138 Try.underlying5 Try.underlying9 (fun j hj => by
            have := hown.cellAt j (by omega)
            rw [List.getElem?_map, List.getElem?_eq_getElem hj] at this
            rw [addr_add0, this]
            rfl)
      clear hl2
      go_wp2_with fail
      go_ret
      exact ⟨rfl, hT⟩

end Go.Proofs.Ytppnmpeicmlneaa
