
/- Walks: the harness's marks on records. -/
import Derived.Test.YteogfjddkaodkaaDoorSync
import Derived.Laws.IdiomStrings
import Derived.Deep.RegionHeld3
namespace Go.Proofs.YteogfjddkaodkaaDoor
open Go.RowKit

def mtAux (k : Nat) (out : Bs) : Bs := if h : k = 0 then out else mtAux (k / 10) (UInt8.ofNat (48 + k % 10) :: out)
termination_by k
decreasing_by omega
theorem mtAux_step {k : Nat} {out : Bs} (h : 0 < k) : mtAux (k / 10) (UInt8.ofNat (48 + k % 10) :: out) = mtAux k out := by
  conv => rhs; rw [mtAux]
  rw [dif_neg (by omega)]
theorem mtAux_zero (out : Bs) : mtAux 0 out = out := by rw [mtAux]; simp
def markB (k : Nat) : ByteArray := mk (109 :: mtAux k [])
theorem one_back (w : World) (b : UInt8) (x : Int) (hx : x = b.toNat) :
    (convert 53 9 (.slice (some ⟨w.heap.size, 0, none⟩) 1 1)).run Tryd.prog (w.alloc (.cells #[.int .u8 x] 5)) = .ok (.string (mk [b])) (w.alloc (.cells #[.int .u8 x] 5)) := by
  subst hx
  exact run_convert_bytes_back (P := Tryd.prog) _ 53 9 5 ⟨w.heap.size, 0, none⟩ 1 [b] Tryd.underlying53 Tryd.underlying5 Tryd.underlying9 (fun j hj => by
    have : j = 0 := by simpa using hj
    subst this
    simp [Addr.add])

set_option maxRecDepth 20000 in
set_option maxHeartbeats 2000000 in
theorem markText_any (k0 : Nat) (hk0 : 0 < k0) (hk1 : k0 ≤ 1000) (w : World) :
    Calls Tryd.prog 52 #[.int .i64 k0] w (Bl w (.string (markB k0))) := by
  have hpos : ¬ ((k0 : Int) ≤ 0) := by omega
  go_enter Tryd.func52, Tryd.ntmps52
  go_wp2
  go_loopw [0, 3] (fun v o wr => ∃ (k : Nat) (S : ByteArray), v = .int .i64 k ∧ o = .string S ∧ k ≤ k0 ∧ S.size + k ≤ k0 ∧ Hid (mtAux k (bs S) = mtAux k0 []) ∧ Below w.heap.size w wr) (fun v _ _ => (intOf v).toNat)
  case atStart => exact ⟨k0, ⟨#[]⟩, rfl, rfl, Nat.le_refl _, by show 0 + k0 ≤ k0; omega, rfl, Below.refl _ _⟩
  case round =>
    obtain ⟨k, S, rfl, rfl, hk, hlen, H, hT⟩ := hrel
    by_cases hkp : 0 < k
    · have hk1' : (k : Int) ≤ 1000 := by omega
      have hkp' : (0 : Int) < k := by omega
      have hm9 : k % 10 < 10 := Nat.mod_lt _ (by decide)
      obtain ⟨b, HB⟩ : ∃ b, Hid (UInt8.ofNat (48 + k % 10) = b) := ⟨_, rfl⟩
      obtain ⟨B, HBB⟩ : ∃ B, Hid (mk [b] = B) := ⟨_, rfl⟩
      have hbs : B.size = 1 := by rw [← HBB.out, size_mk]; rfl
      have hbk := one_back wr b (48 + (k : Int) % 10) (by rw [← HB.out, u8_toNat (by omega)]; omega)
      rw [HBB.out] at hbk
      have kc := cat B S (by omega)
      have hss : (B ++ S).size = S.size + 1 := by rw [size_app, hbs]; omega
      have H2 : Hid (mtAux (k / 10) (bs (B ++ S)) = mtAux k0 []) := by
        show _ = _
        rw [← H.out, ← mtAux_step hkp, bs_app, ← HBB.out, HB.out]
        rfl
      have hb1 := below_next hT (below_box wr (.cells #[.int .u8 (48 + (k : Int) % 10)] 5)) rfl
      clear hbs
      go_wp2_with fail
      go_roundw
      case rel => exact ⟨k / 10, B ++ S, by go_num, rfl, by omega, by rw [hss]; omega, H2, hb1⟩
      case measure => simp [intOf]; omega
    · obtain rfl : k = 0 := by omega
      obtain ⟨M, HMM⟩ : ∃ M : ByteArray, Hid (⟨#[109]⟩ = M) := ⟨_, rfl⟩
      have kc := cat ⟨#[109]⟩ S (by show 1 + _ ≤ _; omega)
      have hM : Hid ((⟨#[109]⟩ : ByteArray) ++ S = markB k0) := by
        show _ = _
        unfold markB
        rw [← H.out, mtAux_zero]
        apply ByteArray.ext
        simp [mk, bs]
      have hkn : ¬ (0 : Int) < ((0 : Nat) : Int) := by omega
      go_wp2_with fail
      trace_state
      go_ret
      exact ⟨ret_str hM.out, hT⟩
end Go.Proofs.YteogfjddkaodkaaDoor
