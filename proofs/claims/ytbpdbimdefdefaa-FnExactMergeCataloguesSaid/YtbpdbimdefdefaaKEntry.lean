
/- The harness's marks on []Entry: marks of text, of sizes, of operations. -/
import Derived.Test.YtbpdbimdefdefaaKOp
import Derived.Test.YtbpdbimdefdefaaHEntry
import Derived.Laws.IdiomStrings
import Derived.Deep.RegionHeld3
namespace Go.Proofs.Ytbpdbimdefdefaa
open Go.RowKit

/-! ## markText -/
def tkAux (k : Nat) (out : List UInt8) : List UInt8 := if h : k = 0 then out else tkAux (k / 10) (UInt8.ofNat (48 + k % 10) :: out)
termination_by k
decreasing_by omega
theorem tkAux_step {k : Nat} {out : List UInt8} (h : 0 < k) : tkAux (k / 10) (UInt8.ofNat (48 + k % 10) :: out) = tkAux k out := by
  conv => rhs; rw [tkAux]
  rw [dif_neg (by omega)]
theorem tkAux_zero (out : List UInt8) : tkAux 0 out = out := by rw [tkAux]; simp
def tkS (l : List UInt8) : ByteArray := ⟨l.toArray⟩
def tkB (k : Nat) : ByteArray := tkS (109 :: tkAux k [])
theorem tk_size (l : List UInt8) : (tkS l).size = l.length := rfl
theorem tk_app (a b : ByteArray) : bs (a ++ b) = bs a ++ bs b := by
  unfold bs
  rw [ByteArray.data_append]
  simp
theorem tk_sizeA (a b : ByteArray) : (a ++ b).size = a.size + b.size := by
  have := congrArg List.length (tk_app a b)
  rw [List.length_append] at this
  exact this
theorem tk_cat (a b : ByteArray) (h : a.size + b.size ≤ 1099511627776) : ∀ w, (Op.stringOp .add a b).run Try.prog w = .ok (.string (a ++ b)) w := fun w => run_string_add_sum w a b (by omega)
theorem tk_u8 {n : Nat} (h : n < 256) : (UInt8.ofNat n).toNat = n := by
  rw [UInt8.toNat_ofNat']
  omega
theorem tk_back (w : World) (b : UInt8) (x : Int) (hx : x = b.toNat) :
    (convert 101 9 (.slice (some ⟨w.heap.size, 0, none⟩) 1 1)).run Try.prog (w.alloc (.cells #[.int .u8 x] 5)) = .ok (.string (tkS [b])) (w.alloc (.cells #[.int .u8 x] 5)) := by
  subst hx
  exact run_convert_bytes_back (P := Try.prog) _ 101 9 5 ⟨w.heap.size, 0, none⟩ 1 [b] Try.underlying101 Try.underlying5 Try.underlying9 (fun j hj => by
    have : j = 0 := by simpa using hj
    subst this
    simp [Addr.add])
set_option maxRecDepth 20000 in
set_option maxHeartbeats 2000000 in
theorem markTextX_any (k0 : Nat) (hk0 : 0 < k0) (hk1 : k0 ≤ 16777216) (w : World) :
    Calls Try.prog 47 #[.int .i64 k0] w (Bl w (.string (tkB k0))) := by
  have hpos : ¬ ((k0 : Int) ≤ 0) := by omega
  go_enter Try.func47, Try.ntmps47
  go_wp2
  go_loopw [0, 3] (fun v o wr => ∃ (k : Nat) (S : ByteArray), v = .int .i64 k ∧ o = .string S ∧ k ≤ k0 ∧ S.size + k ≤ k0 ∧ Hid (tkAux k (bs S) = tkAux k0 []) ∧ Below w.heap.size w wr) (fun v _ _ => (intOf v).toNat)
  case atStart => exact ⟨k0, ⟨#[]⟩, rfl, rfl, Nat.le_refl _, by show 0 + k0 ≤ k0; omega, rfl, Below.refl _ _⟩
  case round =>
    obtain ⟨k, S, rfl, rfl, hk, hlen, H, hT⟩ := hrel
    by_cases hkp : 0 < k
    · have hk1' : (k : Int) ≤ 16777216 := by omega
      have hkp' : (0 : Int) < k := by omega
      have hm9 : k % 10 < 10 := Nat.mod_lt _ (by decide)
      obtain ⟨b, HB⟩ : ∃ b, Hid (UInt8.ofNat (48 + k % 10) = b) := ⟨_, rfl⟩
      obtain ⟨B, HBB⟩ : ∃ B, Hid (tkS [b] = B) := ⟨_, rfl⟩
      have hbs : B.size = 1 := by rw [← HBB.out, tk_size]; rfl
      have hbk := tk_back wr b (48 + (k : Int) % 10) (by rw [← HB.out, tk_u8 (by omega)]; omega)
      rw [HBB.out] at hbk
      have kc := tk_cat B S (by omega)
      have hss : (B ++ S).size = S.size + 1 := by rw [tk_sizeA, hbs]; omega
      have H2 : Hid (tkAux (k / 10) (bs (B ++ S)) = tkAux k0 []) := by
        show _ = _
        rw [← H.out, ← tkAux_step hkp, tk_app, ← HBB.out, HB.out]
        rfl
      have hb1 := below_next hT (below_box wr (.cells #[.int .u8 (48 + (k : Int) % 10)] 5)) rfl
      clear hbs
      go_wp2_with fail
      go_roundw
      case rel => exact ⟨k / 10, B ++ S, by go_num, rfl, by omega, by rw [hss]; omega, H2, hb1⟩
      case measure => simp [intOf]; omega
    · obtain rfl : k = 0 := by omega
      obtain ⟨M, HMM⟩ : ∃ M : ByteArray, Hid (⟨#[109]⟩ = M) := ⟨_, rfl⟩
      have kc := tk_cat ⟨#[109]⟩ S (by show 1 + _ ≤ _; omega)
      have hM : Hid ((⟨#[109]⟩ : ByteArray) ++ S = tkB k0) := by
        show _ = _
        unfold tkB
        rw [← H.out, tkAux_zero]
        apply ByteArray.ext
        simp [tkS, bs]
      have hkn : ¬ (0 : Int) < ((0 : Nat) : Int) := by omega
      go_wp2_with fail
      go_ret
      exact ⟨ret_str hM.out, hT⟩
theorem tkAux_len : ∀ (k : Nat) (out : List UInt8), (tkAux k out).length ≤ k + out.length := by
  intro k
  induction k using Nat.strongRecOn with
  | _ k ih =>
    intro out
    by_cases h : k = 0
    · subst h; rw [tkAux_zero]; omega
    · rw [← tkAux_step (by omega)]
      have := ih (k / 10) (by omega) (UInt8.ofNat (48 + k % 10) :: out)
      rw [List.length_cons] at this
      omega
theorem tkB_size {k : Nat} (h : k ≤ 16777216) : (tkB k).size ≤ maxLen := by
  unfold tkB maxLen
  rw [tk_size, List.length_cons]
  have := tkAux_len k []
  simp at this
  omega

/-! ## Entries -/
theorem keepcK {w w' : World} (h : Below w.heap.size w w') {p : Addr} {v : Value} (hc : w.cell? p = some v) : w'.cell? p = some v := (h.cell (cell_lt hc)).trans hc
def mcEntry (x : EntryM) : Nat := 2 + cntS mcOp x.2.2
def mqEntry (k : Int) (x : EntryM) : EntryM := (tkB k.toNat, k + 1, mkL mqOp mcOp (k + 1 + 1) x.2.2)
theorem mcle_rowsEntry {xs : List EntryM} (h : (Sh.rows shEntry 64).cnt xs ≤ 1048576) : cntS mcEntry xs ≤ 4194304 := by
  have hcn : xs.length + cntS shEntry.cnt xs ≤ 1048576 := h
  have h1 : ∀ l : List OpM, cntS mcOp l = l.length + cntS shOp.cnt l := fun l => by
    induction l with
    | nil => rfl
    | cons y l ih =>
      rw [cntS_cons, cntS_cons, ih, List.length_cons]
      show 1 + y.2.length + _ = _ + ((0 + y.2.length) + _)
      omega
  have h2 : ∀ l : List EntryM, cntS mcEntry l ≤ 2 * l.length + cntS shEntry.cnt l := fun l => by
    induction l with
    | nil => exact Nat.le_refl _
    | cons y l ih =>
      rw [cntS_cons, cntS_cons, List.length_cons]
      have e1 : mcEntry y = 2 + (y.2.2.length + cntS shOp.cnt y.2.2) := by rw [← h1]; rfl
      have e2 : y.2.2.length + cntS shOp.cnt y.2.2 ≤ shEntry.cnt y := by
        show _ ≤ y.1.size + (0 + (y.2.2.length + cntS shOp.cnt y.2.2))
        omega
      omega
  have := h2 xs
  omega
set_option linter.unusedVariables false in
set_option maxHeartbeats 16000000 in
theorem markEntryS_any (v : Value) (xs : List EntryM) (bl : List Nat) (k0 : Int) (w : World) (h : (Sh.rows shEntry 64).own w [v] xs bl) (hnd : bl.Nodup) (h0 : 1 ≤ k0) (h1 : k0 + cntS mcEntry xs ≤ 16000000) :
    Calls Try.prog 14 #[v, .int .i64 k0] w (MkE (Sh.rows shEntry 64) w [v] (mkL mqEntry mcEntry k0 xs) bl (k0 + cntS mcEntry xs)) := by
  obtain ⟨v', css0, bls, e, hP0, rfl⟩ := h
  injection e with e _
  subst e
  obtain ⟨A, c, rfl⟩ := own_slice hP0.row
  have hnl := own_len_le hP0.row
  unfold maxLen at hnl
  have HND := Lib.hid hnd
  clear hnd
  go_enter Try.func14, Try.ntmps14
  go_wp2
  go_loopw [1, 5] (fun q i wr => ∃ (j : Nat) (k : Int) (ys : List EntryM) (css : List (List Value)), j ≤ xs.length ∧ i = .int .i64 j ∧ q = .int .i64 k ∧ MkAt mqEntry mcEntry k0 xs ys j k ∧ Parts shEntry 64 wr (.slice A xs.length c) ys css bls ∧ ChgB (obl (.slice A xs.length c) ++ bls.flatten) w wr) (fun _ i _ => xs.length - (intOf i).toNat)
  case atStart => exact ⟨0, k0, xs, css0, Nat.zero_le _, rfl, rfl, MkAt.start _ _, hP0, ChgB.refl _ _⟩
  case round =>
    clear hP0
    obtain ⟨j, k, ys, css, hj, rfl, rfl, HM, hP, CH⟩ := hrel
    have hyl : ys.length = xs.length := HM.2.2.1
    by_cases hlt : j < xs.length
    · have hd : xs.drop j = xs[j] :: xs.drop (j + 1) := List.drop_eq_getElem_cons hlt
      generalize xs[j] = x at hd
      obtain ⟨hyj, hk0, hk1⟩ := HM.left hd
      have HS := Lib.hid (HM.step hd)
      obtain ⟨g, cap, hv⟩ := hP.slice (by omega : j < ys.length)
      injection hv with hA hn2 hc2
      subst hA
      clear hn2 hc2
      have hl1 := hP.l1
      have hl2 := hP.l2
      have hcj : css[j]? = some (css[j]'(by omega)) := List.getElem?_eq_getElem (by omega)
      have hbj : bls[j]? = some (bls[j]'(by omega)) := List.getElem?_eq_getElem (by omega)
      generalize css[j]'(by omega) = cj at hcj
      generalize bls[j]'(by omega) = bk at hbj
      have ho := hP.el j cj x bk hcj hyj hbj
      obtain ⟨c0, cA, b0, bA, rfl, rfl, O0, ⟨c1, c2, b1, b2, rfl, rfl, O1, O2⟩⟩ := ho
      obtain ⟨_, rfl, ⟨rfl, hsz⟩, rfl⟩ := O0
      obtain ⟨_, rfl, ⟨rfl, lo1, hi1⟩, rfl⟩ := O1
      obtain ⟨B, m, d, rfl, -⟩ := (Sh.rows shOp 103).ord O2
      have hgb := nd_head HND.out (g := g) rfl
      have hbk : ∀ b ∈ b2, b ∈ bls.flatten := fun b hb => List.mem_flatten.2 ⟨_, List.mem_of_getElem? hbj, by simpa using hb⟩
      have hndk := nd_el HND.out hbj
      have ndk : b2.Nodup := by simpa using hndk
      have hgk : g ∉ b2 := fun hh => hgb (hbk g hh)
      have hmb : j * 3 + 3 ≤ xs.length * 3 := by omega
      have ROW := hP.row
      rw [hyl] at ROW
      have hall := hP.all
      have q0 : j * 3 < xs.length * shEntry.m := by show _ < _ * 3; omega
      have q1 : j * 3 + 1 < xs.length * shEntry.m := by show _ < _ * 3; omega
      have q2 : j * 3 + 2 < xs.length * shEntry.m := by show _ < _ * 3; omega
      have F0 : css.flatten[j * 3]? = some (.string x.1) := by have := flat_get hall j 0 (by decide); rw [hcj] at this; exact this
      have F1 : css.flatten[j * 3 + 1]? = some (.int .i64 x.2.1) := by have := flat_get hall j 1 (by decide); rw [hcj] at this; exact this
      have F2 : css.flatten[j * 3 + 2]? = some (.slice B m d) := by have := flat_get hall j 2 (by decide); rw [hcj] at this; exact this
      have hkp : 0 < k.toNat := by omega
      have hkn : k.toNat ≤ 16777216 := by omega
      have hkc : ((k.toNat : Nat) : Int) = k := by omega
      have HMT : ∀ wz, Calls Try.prog 47 #[.int .i64 k] wz (Bl wz (.string (tkB k.toNat))) := fun wz => by
        have := markTextX_any k.toNat hkp hkn wz
        rw [hkc] at this
        exact this
      obtain ⟨tk, HTK⟩ : ∃ t, Hid (tkB k.toNat = t) := ⟨_, rfl⟩
      rw [HTK.out] at HMT
      have htz : Hid (tk.size ≤ maxLen) := by show _ ≤ _; rw [← HTK.out]; exact tkB_size hkn
      have cc0 : wr.cell? ⟨g, j * 3, none⟩ = some (.string x.1) := (ROW.cellAt _ q0).trans F0
      have cc1 : wr.cell? ⟨g, j * 3 + 1, none⟩ = some (.int .i64 x.2.1) := (ROW.cellAt _ q1).trans F1
      have cc2 : wr.cell? ⟨g, j * 3 + 2, none⟩ = some (.slice B m d) := (ROW.cellAt _ q2).trans F2
      have HBJ := Lib.hid hbj
      have HCJ := Lib.hid hcj
      have HP := Lib.hid hP
      have HYL := Lib.hid hyl
      have HF2 := Lib.hid F2
      have hj0 : (0 : Int) ≤ (j : Int) := by omega
      have hj1 : (j : Int) < (xs.length : Int) := by omega
      have hmc : mcEntry x = 2 + cntS mcOp x.2.2 := rfl
      clear hd HM hP hyl hcj hbj hyj F0 F1 F2 hndk hkp hkn hkc
      go_wp2_with fail
      refine (HMT _).mono ?_
      rintro e w1 ⟨rfl, hb1⟩
      replace cc0 := keepc hb1 cc0
      replace cc1 := keepc hb1 cc1
      replace cc2 := keepc hb1 cc2
      have ROWa := own_next ROW hb1
      have O2a := Sh.onext O2 hb1
      have ff0 : w1.frozen? ⟨g, j * 3, none⟩ = false := ROWa.frozenAt _
      have ff1 : w1.frozen? ⟨g, j * 3 + 1, none⟩ = false := ROWa.frozenAt _
      obtain ⟨w3, hw3⟩ : ∃ wb, wb = (w1.setCell ⟨g, j * 3, none⟩ (.string tk)).setCell ⟨g, j * 3 + 1, none⟩ (.int .i64 (k + 1)) := ⟨_, rfl⟩
      have ROW1 : w3.ownsRow 0 64 shEntry.m (.slice (some ⟨g, 0, none⟩) xs.length c) xs.length ((css.flatten.set (j * 3) (.string tk)).set (j * 3 + 1) (.int .i64 (k + 1))) := by rw [hw3]; exact (((ROWa.stored (j * 3) (.string tk)).1).stored (j * 3 + 1) (.int .i64 (k + 1))).1
      have O3 : (Sh.rows shOp 103).own w3 [.slice B m d] x.2.2 b2 := by rw [hw3]; exact Sh.oset' (p := ⟨g, j * 3 + 1, none⟩) (Sh.oset' (p := ⟨g, j * 3, none⟩) O2a hgk _) hgk _
      have C1 : ChgB (g :: b2) wr w3 := by rw [hw3]; exact (ChgB.ofBelow hb1).trans ((ChgB.set (p := ⟨g, j * 3, none⟩) (List.mem_cons_self ..) _).trans (ChgB.set (p := ⟨g, j * 3 + 1, none⟩) (List.mem_cons_self ..) _))
      clear ROW ROWa O2 O2a hb1 HMT
      go_wp2_with fail
      rw [← hw3]
      clear hw3 cc0 cc1 cc2 ff0 ff1
      refine (markOpS_any _ x.2.2 b2 (k + 1 + 1) w3 O3 ndk (by omega) (by omega)).mono ?_
      rintro e w4 ⟨rfl, O4, hc4⟩
      replace ROW1 := row_chg ROW1 hc4 (fun b hb => by injection hb with hb; subst hb; exact hgk)
      replace C1 := C1.trans (hc4.mono fun b hb => List.mem_cons_of_mem _ hb)
      have hset : (css.flatten.set (j * 3) (.string tk)).set (j * 3 + 1) (.int .i64 (k + 1)) = setAll css.flatten (j * shEntry.m) [.string tk, .int .i64 (k + 1), .slice B m d] := by
        show _ = ((css.flatten.set (j * 3) (.string tk)).set (j * 3 + 1) (.int .i64 (k + 1))).set (j * 3 + 1 + 1) (.slice B m d)
        rw [set_same (set_get_ne (set_get_ne HF2.out (by omega)) (by omega))]
      rw [hset] at ROW1
      have ROW3 : w4.ownsRow 0 64 shEntry.m (.slice (some ⟨g, 0, none⟩) xs.length c) ys.length (setAll css.flatten (j * shEntry.m) [.string tk, .int .i64 (k + 1), .slice B m d]) := by rw [HYL.out]; exact ROW1
      have hkr : InR (k + 1) := ⟨by omega, by omega⟩
      have HPP := HP.out.put HND.out HBJ.out (c' := [.string tk, .int .i64 (k + 1), .slice B m d]) (x' := mqEntry k x) ROW3 ⟨[.string tk], [.int .i64 (k + 1), .slice B m d], [], b2, rfl, rfl, ⟨_, rfl, ⟨by rw [← HTK.out]; rfl, by show (tkB k.toNat).size ≤ maxLen; rw [HTK.out]; exact htz.out⟩, rfl⟩, ⟨[.int .i64 (k + 1)], [.slice B m d], [], b2, rfl, rfl, ⟨_, rfl, ⟨rfl, hkr.1, hkr.2⟩, rfl⟩, O4⟩⟩
        (fun b hb hn => C1.block b (HP.out.lt b (List.mem_append_right _ hb)) (fun hh => by
          rcases List.mem_cons.1 hh with rfl | hh
          · exact hgb hb
          · exact hn (by simpa using hh)))
      have CH2 := CH.trans (C1.mono fun b hb => by
        rcases List.mem_cons.1 hb with rfl | hb
        · exact List.mem_append_left _ (mem_obl.2 rfl)
        · exact List.mem_append_right _ (hbk b hb))
      clear hset ROW1 ROW3 C1 O4 O3
      have HPP' := Lib.hid HPP
      clear HPP
      go_wp2_with fail
      go_roundw
      case rel => exact ⟨j + 1, _, _, _, by omega, by go_num, rfl, by rw [show k + 1 + 1 + ((cntS mcOp x.2.2 : Nat) : Int) = k + mcEntry x from by rw [hmc]; omega]; exact HS.out, HPP'.out, CH2⟩
      case measure => simp [intOf]; omega
    · have hj' : j = xs.length := by omega
      obtain ⟨rfl, hk⟩ := HM.done (List.drop_eq_nil_of_le (by omega))
      have HK := Lib.hid hk
      have HPP := Lib.hid hP
      clear hP hk hyl
      have hlt' : ¬ (j : Int) < (xs.length : Int) := by omega
      clear hj'
      go_wp2_with fail
      go_ret
      exact ⟨ret_int HK.out, ⟨_, css, bls, rfl, HPP.out, rfl⟩, CH⟩
set_option linter.unusedVariables false in
set_option maxHeartbeats 8000000 in
theorem heldEntryS_any (v : Value) (xs : List EntryM) (k0 : Int) (w : World) (hv : (Sh.rows shEntry 64).rd w [v] (mkL mqEntry mcEntry k0 xs)) (h0 : 1 ≤ k0) (h1 : k0 + cntS mcEntry xs ≤ 16000000) :
    Calls Try.prog 15 #[v, .int .i64 k0] w (Bl w (.int .i64 (k0 + cntS mcEntry xs))) := by
  obtain ⟨A, n, c, e, h⟩ := hv
  injection e with e _
  subst e
  have hle := h.le
  have hxl : xs.length = n := by rw [← mkL_len mqEntry mcEntry k0 xs]; exact h.len
  have HXL := Lib.hid hxl
  clear hxl
  go_enter Try.func15, Try.ntmps15
  go_wp2
  go_loopw [1, 5] (fun q i wr => ∃ (j : Nat) (k : Int), j ≤ n ∧ i = .int .i64 j ∧ q = .int .i64 k ∧ HkAt mqEntry mcEntry k0 xs j k ∧ Below w.heap.size w wr) (fun _ i _ => n - (intOf i).toNat)
  case atStart => exact ⟨0, k0, Nat.zero_le _, rfl, rfl, HkAt.start _ _, Below.refl _ _⟩
  case round =>
    obtain ⟨j, k, hj, rfl, rfl, HM, hT⟩ := hrel
    have h' := h.next hT
    by_cases hlt : j < n
    · have hjx : j < xs.length := by rw [HXL.out]; exact hlt
      have hd : xs.drop j = xs[j] :: xs.drop (j + 1) := List.drop_eq_getElem_cons hjx
      generalize xs[j] = x at hd
      obtain ⟨hxj, hk0, hk1⟩ := HM.left hd
      have HS := Lib.hid (HM.step hd)
      obtain ⟨b, o, vs, y, rfl, -, hc, hr, -, hy⟩ := h'.at hlt
      rw [hxj] at hy
      injection hy with hy
      subst hy
      obtain ⟨B, m, d, rfl, hsz, hIn, qO⟩ := rdEntry hr
      have hkp : 0 < k.toNat := by omega
      have hkn : k.toNat ≤ 16777216 := by omega
      have hkc : ((k.toNat : Nat) : Int) = k := by omega
      have HMT : ∀ wz, Calls Try.prog 47 #[.int .i64 k] wz (Bl wz (.string (tkB k.toNat))) := fun wz => by
        have := markTextX_any k.toNat hkp hkn wz
        rw [hkc] at this
        exact this
      obtain ⟨tk, HTK⟩ : ∃ t, Hid (tkB k.toNat = t) := ⟨_, rfl⟩
      rw [HTK.out] at HMT
      have hst : (tk.toList == tk.toList) = true := by simp
      have hst2 : (tk.toList != tk.toList) = false := by simp
      have cc0 : wr.cell? ⟨b, o + j * 3, none⟩ = some (.string tk) := by rw [← HTK.out]; exact hc 0 _ rfl
      have cc1 : wr.cell? ⟨b, o + j * 3 + 1, none⟩ = some (.int .i64 (k + 1)) := hc 1 _ rfl
      have cc2 : wr.cell? ⟨b, o + j * 3 + 2, none⟩ = some (.slice B m d) := hc 2 _ rfl
      have hmc : mcEntry x = 2 + cntS mcOp x.2.2 := rfl
      have hne : (k + 1 != k + 1) = false := by simp
      have hj0 : (0 : Int) ≤ (j : Int) := by omega
      have hj1 : (j : Int) < (n : Int) := by omega
      have Tk : Below wr.heap.size wr wr := Below.refl _ _
      clear hc hd hxj hr hkp hkn hkc
      have qO0 : (Sh.rows shOp 103).rd wr [.slice B m d] (mkL mqOp mcOp (k + 1 + 1) x.2.2) := ⟨B, m, d, rfl, qO⟩
      have HQ := Lib.hid qO0
      clear qO qO0
      go_upto_region 4 with fail
      go_cut [19] from 6 to 41 (fun v wx => v = .bool false ∧ Below wr.heap.size wr wx)
      case first =>
        go_region_held3 (fun w' => w'.cell? ⟨b, o + j * 3, none⟩ = some (.string tk)) (first | go_keep | exact keepcK Tk cc0) (first | (go_at_call 47; refine (HMT _).mono ?_; rintro e w1 ⟨rfl, hb1⟩; replace Tk := below_next (by first | exact Tk | exact Below.drew Tk) hb1 rfl))
        all_goals
          go_wp2_with fail
          go_meet
          exact ⟨rfl, by first | exact Tk | exact Below.drew Tk⟩
      case rest =>
        obtain ⟨rfl, hTc⟩ := hcut
        obtain ⟨w1, HWC⟩ : ∃ wq : World, wq = wc := ⟨_, rfl⟩
        subst HWC
        replace cc1 := keepcK hTc cc1
        replace cc2 := keepcK hTc cc2
        have hT1 := below_next hT hTc rfl
        obtain ⟨B', m', d', e1, qO1⟩ := (Sh.rows shOp 103).stab HQ.out hTc.block
        injection e1 with e1 _
        injection e1 with e1 e2 e3
        subst e1
        subst e2
        subst e3
        clear cc0 HMT Tk hst hst2
        go_wp2_with fail
        refine (heldOpS_any _ _ _ x.2.2 (k + 1 + 1) w1 qO1 (by omega) (by omega)).mono ?_
        rintro e w2 ⟨rfl, hb2⟩
        have hT2 := below_next hT1 hb2 rfl
        have hnn : ¬ k + 1 + 1 + (cntS mcOp x.2.2 : Int) < 0 := by omega
        clear cc1 cc2
        go_wp2_with fail
        go_roundw
        case rel => exact ⟨j + 1, _, by omega, by go_num, rfl, by rw [show k + 1 + 1 + ((cntS mcOp x.2.2 : Nat) : Int) = k + mcEntry x from by rw [hmc]; omega]; exact HS.out, hT2⟩
        case measure => simp [intOf]; omega
    · have HK := Lib.hid (HM.done (List.drop_eq_nil_of_le (by rw [HXL.out]; omega)))
      have hlt' : ¬ (j : Int) < (n : Int) := by omega
      go_wp2_with fail
      go_ret
      exact ⟨ret_int HK.out, hT⟩
end Go.Proofs.Ytbpdbimdefdefaa
