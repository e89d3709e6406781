
/- Plain laws of adjoint pairs and of least fixed points, for FnAdjoints. -/
import Derived.Test.YtlncpabnlnipoaaLat
import Derived.Test.YtlncpabnlnipoaaIsAP
namespace Go.Proofs.Ytlncpabnlnipoaa
open Go.RowKit
set_option linter.unusedVariables false

section
variable {F G : Nat → Nat → Bool} {n m : Nat} {fs gs : List Int}
/-- A map of n elements into m. -/
def MapI (n m : Nat) (fs : List Int) : Prop := fs.length = n ∧ ∀ x ∈ fs, 0 ≤ x ∧ x ≤ (m : Int) - 1
theorem MapI.at (h : MapI n m fs) {x : Nat} (hx : x < n) : fAt fs x < m ∧ fs[x]? = some (fAt fs x : Int) := by
  have h1 : fs[x]? = some (fs[x]'(by rw [h.1]; exact hx)) := List.getElem?_eq_getElem (by rw [h.1]; exact hx)
  have h2 := h.2 _ (List.getElem_mem (l := fs) (n := x) (by rw [h.1]; exact hx))
  generalize fs[x]'(by rw [h.1]; exact hx) = z at h1 h2
  obtain ⟨z', rfl⟩ := Int.eq_ofNat_of_zero_le h2.1
  rw [fAt_get h1]
  exact ⟨by omega, h1⟩
theorem mt_best {x y v : Nat} (h : 0 ≤ mt F n x y) (hv : v < n) (h1 : F v x = true) (h2 : F v y = true) : F v (mt F n x y).toNat = true := by
  unfold mt grI at h ⊢
  rcases e : (rowTo (mtF F x) y n).find? (belowAll F (rowTo (mtF F x) y n)) with _ | u
  · rw [e] at h; simp at h
  · have := List.find?_some e
    have h3 := below_mem.1 this (v : Int) (rowTo_mem.2 ⟨v, hv, by unfold mtF; rw [h1, h2]; rfl, rfl⟩)
    simpa using h3
theorem adj_gf (hF : OrdP n F) (hG : OrdP m G) (hf : MapI n m fs) (hg : MapI m n gs) (ha : AdjP n m F G fs gs) {x : Nat} (hx : x < n) : F x (fAt gs (fAt fs x)) = true := by
  have h1 := (hf.at hx).1
  have h2 := ha x hx (fAt fs x) h1
  unfold AdjXY at h2
  rw [← h2]
  exact ord_rfl hG h1
theorem adj_fg (hF : OrdP n F) (hG : OrdP m G) (hf : MapI n m fs) (hg : MapI m n gs) (ha : AdjP n m F G fs gs) {y : Nat} (hy : y < m) : G (fAt fs (fAt gs y)) y = true := by
  have h1 := (hg.at hy).1
  have h2 := ha (fAt gs y) h1 y hy
  unfold AdjXY at h2
  rw [h2]
  exact ord_rfl hF h1
theorem adj_mono1 (hF : OrdP n F) (hG : OrdP m G) (hf : MapI n m fs) (hg : MapI m n gs) (ha : AdjP n m F G fs gs) : MonP n F G fs := fun x hx y hy => by
  rintro ⟨h1, h2⟩
  have h3 := adj_gf hF hG hf hg ha hy
  have h4 := ord_tr hF hx hy (hg.at (hf.at hy).1).1 h1 h3
  have h5 := ha x hx (fAt fs y) (hf.at hy).1
  unfold AdjXY at h5
  rw [h5, h4] at h2
  cases h2
theorem adj_mono2 (hF : OrdP n F) (hG : OrdP m G) (hf : MapI n m fs) (hg : MapI m n gs) (ha : AdjP n m F G fs gs) : MonP m G F gs := fun x hx y hy => by
  rintro ⟨h1, h2⟩
  have h3 := adj_fg hF hG hf hg ha hx
  have h4 := ord_tr hG (hf.at (hg.at hx).1).1 hx hy h3 h1
  have h5 := ha (fAt gs x) (hg.at hx).1 y hy
  unfold AdjXY at h5
  rw [← h5, h4] at h2
  cases h2
/-- The lower adjoint keeps joins. -/
theorem adj_join (hF : OrdP n F) (hG : OrdP m G) (hf : MapI n m fs) (hg : MapI m n gs) (ha : AdjP n m F G fs gs) (hLF : LatP F n) (hLG : LatP G m) {x y : Nat} (hx : x < n) (hy : y < n) :
    ∃ j : Nat, mt (duF F) n x y = j ∧ j < n ∧ mt (duF G) m (fAt fs x) (fAt fs y) = fAt fs j := by
  obtain ⟨j, ej, hj, h1, h2⟩ := mt_ok (hLF.2.2 x hx y hy)
  have hfx := (hf.at hx).1
  have hfy := (hf.at hy).1
  have hfj := (hf.at hj).1
  obtain ⟨k, ek, hk, h3, h4⟩ := mt_ok (hLG.2.2 _ hfx _ hfy)
  refine ⟨j, ej, hj, ?_⟩
  rw [ek]
  have hM := adj_mono1 hF hG hf hg ha
  have mon : ∀ {a b : Nat}, a < n → b < n → F a b = true → G (fAt fs a) (fAt fs b) = true := fun {a b} ha hb hab => by
    rcases e : G (fAt fs a) (fAt fs b) with _ | _
    · exact absurd ⟨hab, e⟩ (hM a ha b hb)
    · rfl
  -- k is at most f j
  have h5 : G k (fAt fs j) = true := by
    have := mt_best (F := duF G) (n := m) (hLG.2.2 _ hfx _ hfy) hfj (mon hx hj h1) (mon hy hj h2)
    rw [ek] at this
    exact this
  -- f j is at most k
  have hgk := (hg.at hk).1
  have h6 : F x (fAt gs k) = true := by have := ha x hx k hk; unfold AdjXY at this; rw [← this]; exact h3
  have h7 : F y (fAt gs k) = true := by have := ha y hy k hk; unfold AdjXY at this; rw [← this]; exact h4
  have h8 : F j (fAt gs k) = true := by
    have := mt_best (F := duF F) (n := n) (hLF.2.2 x hx y hy) hgk h6 h7
    rw [ej] at this
    exact this
  have h9 : G (fAt fs j) k = true := by have := ha j hj k hk; unfold AdjXY at this; rw [this]; exact h8
  rw [ord_anti hG hk hfj h5 h9]
/-- The upper adjoint is one alone. -/
theorem adj_alone (hF : OrdP n F) (hG : OrdP m G) (hf : MapI n m fs) (hg : MapI m n gs) (ha : AdjP n m F G fs gs) {y : Nat} (hy : y < m) : gUp F G fs n y = fAt gs y := by
  unfold gUp
  have hgy := (hg.at hy).1
  refine gr_last hF row_in (rowTo_mem.2 ⟨fAt gs y, hgy, ?_, rfl⟩) (below_mem.2 fun z hz => ?_)
  · unfold upF
    exact adj_fg hF hG hf hg ha hy
  · obtain ⟨x, hx, h1, rfl⟩ := rowTo_mem.1 hz
    have := ha x hx y hy
    unfold AdjXY at this
    unfold upF at h1
    rw [h1] at this
    simpa using this.symm
theorem adj_up (hF : OrdP n F) (hG : OrdP m G) (hf : MapI n m fs) (hg : MapI m n gs) (ha : AdjP n m F G fs gs) : upR F G fs n m = gs := by
  apply List.ext_getElem?
  intro y
  by_cases hy : y < m
  · rw [(hg.at hy).2]
    unfold upR
    rw [List.getElem?_map, List.getElem?_range hy, Option.map_some, adj_alone hF hG hf hg ha hy]
  · rw [List.getElem?_eq_none (by rw [upR_len]; omega), List.getElem?_eq_none (by rw [hg.1]; omega)]
/-- The least fixed point: it is one, and at most each element that is not less than its value. -/
theorem lfp_least (hF : OrdP n F) (hM : MonP n F F fs) (hf : MapI n n fs) {b : Nat} (P : Nat → Prop) (hP : ∀ y, P y → y < n ∧ F (fAt fs y) y = true) : ∀ (k j x : Nat), n - j = k → LfpI F fs n b j x → (∀ y, P y → F x y = true) → lfp fs n b < n ∧ fAt fs (lfp fs n b) = lfp fs n b ∧ ∀ y, P y → F (lfp fs n b) y = true
  | 0, j, x, hk, h, _ => by have := h.lt; omega
  | k + 1, j, x, hk, h, hy => by
    have hx := h.1
    have hfx := (hf.at hx).1
    by_cases e : fAt fs x = x
    · have ed := h.done e
      rw [← ed]
      exact ⟨hx, e, hy⟩
    · refine lfp_least hF hM hf P hP k (j + 1) (fAt fs x) (by omega) (h.next hF hM hfx rfl e) fun y hPy => ?_
      obtain ⟨hyn, hpre⟩ := hP y hPy
      have h1 := hy y hPy
      rcases e2 : F (fAt fs x) (fAt fs y) with _ | _
      · exact absurd ⟨h1, e2⟩ (hM x hx y hyn)
      · exact ord_tr hF hfx (hf.at hyn).1 hyn e2 hpre
theorem lfp_ok (hF : OrdP n F) (hL : LatP F n) (hM : MonP n F F fs) (hf : MapI n n fs) : lfp fs n (bot F n) < n ∧ fAt fs (lfp fs n (bot F n)) = lfp fs n (bot F n) ∧ ∀ y, y < n ∧ F (fAt fs y) y = true → F (lfp fs n (bot F n)) y = true := by
  obtain ⟨h1, h2⟩ := botTo_ok hF hL.2.1 hL.1 n (Nat.le_refl _)
  exact lfp_least hF hM hf (fun y => y < n ∧ F (fAt fs y) y = true) (fun y h => h) n 0 (bot F n) rfl (LfpI.start hF h1 (h2 _ (hf.at h1).1)) fun y hy => h2 y hy.1
end

/-! ## As the law asks -/
section
variable {n m l k : Nat} {xss yss : List (List Int)} {fs gs : List Int}
structure LaP (n m l : Nat) (xss yss : List (List Int)) (fs gs : List Int) : Prop where
  g1 : GoodP xss
  g2 : GoodP yss
  ln : l = n
  n10 : n ≤ 10
  m10 : m ≤ 10
  o1 : OrdP n (leF xss)
  o2 : OrdP m (leF yss)
  f : MapI n m fs
  g : MapI m n gs
  a : AdjP n m (leF xss) (leF yss) fs gs
theorem mapS_of (hg1 : GoodP xss) (hg2 : GoodP yss) (hf : MapI n m fs) : mapS n m n xss yss fs = true := by
  unfold mapS mapB
  rw [← tt_true hg1, ← tt_true hg2]
  simp only [Bool.true_and, beq_self_eq_true]
  exact allIn_iff.2 hf.2
theorem LaP.up (h : upB n m l xss yss fs = true) (hx : xss.length = n) (hy : yss.length = m) (hl : fs.length = l) : LaP n m l xss yss fs (upL n m l xss yss fs) ∧ (upL n m l xss yss fs).length = m := by
  have h0 := h
  unfold upB at h
  rw [Bool.and_eq_true, tt_iff] at h
  obtain ⟨h1, h2, h3⟩ := h
  obtain ⟨g1, g2, -, hln, hin, -⟩ := mapS_true h1
  have e : upL n m l xss yss fs = upR (leF xss) (leF yss) fs n m := by unfold upL; rw [h0]; rfl
  rw [e]
  exact ⟨⟨g1, g2, hln, by have := g1.1; omega, by have := g2.1; omega, hx ▸ g1.2.2, hy ▸ g2.2.2, ⟨by omega, hin⟩, ⟨upR_len .., upR_in h2⟩, h3⟩, upR_len ..⟩
theorem LaP.ap (h : LaP n m l xss yss fs gs) : apOk n m l m xss yss fs gs = true ∧ apRes n m l m xss yss fs gs = true := by
  have h1 : apOk n m l m xss yss fs gs = true := by
    unfold apOk
    rw [h.ln, mapS_of h.g1 h.g2 h.f, mapS_of h.g2 h.g1 h.g]
    rfl
  refine ⟨h1, ?_⟩
  unfold apRes
  rw [h1, ← tt_true h.a]
  rfl
theorem LaP.mono1 (h : LaP n m l xss yss fs gs) : mapS n m l xss yss fs = true ∧ monRes n m l xss yss fs = true := by
  have h1 : mapS n m l xss yss fs = true := by rw [h.ln]; exact mapS_of h.g1 h.g2 h.f
  refine ⟨h1, ?_⟩
  unfold monRes
  rw [h1, ← tt_true (adj_mono1 h.o1 h.o2 h.f h.g h.a)]
  rfl
theorem LaP.mono2 (h : LaP n m l xss yss fs gs) : mapS m n m yss xss gs = true ∧ monRes m n m yss xss gs = true := by
  have h1 : mapS m n m yss xss gs = true := mapS_of h.g2 h.g1 h.g
  refine ⟨h1, ?_⟩
  unfold monRes
  rw [h1, ← tt_true (adj_mono2 h.o1 h.o2 h.f h.g h.a)]
  rfl
theorem LaP.of_ap (h : apRes n m l k xss yss fs gs = true) (hx : xss.length = n) (hy : yss.length = m) (hl : fs.length = l) (hk : gs.length = k) : LaP n m l xss yss fs gs ∧ upB n m l xss yss fs = true ∧ upL n m l xss yss fs = gs := by
  unfold apRes apOk at h
  rw [Bool.and_eq_true, Bool.and_eq_true, tt_iff] at h
  obtain ⟨⟨h1, h2⟩, h3⟩ := h
  obtain ⟨g1, g2, -, hln, hin, -⟩ := mapS_true h1
  obtain ⟨-, -, -, hkm, hin2, -⟩ := mapS_true h2
  have H : LaP n m l xss yss fs gs := ⟨g1, g2, hln, by have := g1.1; omega, by have := g2.1; omega, hx ▸ g1.2.2, hy ▸ g2.2.2, ⟨by omega, hin⟩, ⟨by omega, hin2⟩, h3⟩
  have e := adj_up H.o1 H.o2 H.f H.g H.a
  have hb : upB n m l xss yss fs = true := by
    unfold upB
    rw [H.mono1.1, ← tt_true (show UpP n m (leF xss) (leF yss) fs from ⟨fun y hy => by rw [adj_alone H.o1 H.o2 H.f H.g H.a hy]; omega, by rw [e]; exact H.a⟩)]
    rfl
  exact ⟨H, hb, by unfold upL; rw [hb, if_pos rfl]; exact e⟩
theorem up_bd (hn : n ≤ 10) : ∀ x ∈ upL n m l xss yss fs, -9223372036854775808 ≤ x ∧ x ≤ 9223372036854775807 := fun x hx => by
  unfold upL at hx
  split at hx
  · unfold upR at hx
    rw [List.mem_map] at hx
    obtain ⟨y, -, rfl⟩ := hx
    rcases gUp_in (F := leF xss) (G := leF yss) (fs := fs) (n := n) (y := y) with h | h <;> omega
  · simp at hx
theorem up_bd' (hn : n ≤ 20) : ∀ x ∈ upL n m l xss yss fs, -9223372036854775808 ≤ x ∧ x ≤ 9223372036854775807 := fun x hx => by
  unfold upL at hx
  split at hx
  · unfold upR at hx
    rw [List.mem_map] at hx
    obtain ⟨y, -, rfl⟩ := hx
    rcases gUp_in (F := leF xss) (G := leF yss) (fs := fs) (n := n) (y := y) with h | h <;> omega
  · simp at hx
/-- What the law asks of a least fixed point. -/
structure LfP (n l x : Nat) (xss : List (List Int)) (fs : List Int) : Prop where
  g1 : GoodP xss
  ln : l = n
  n10 : n ≤ 10
  f : MapI n n fs
  lt : x < n
  fix : fs[x]? = some (x : Int)
  least : ∀ y, y < n → leF xss (fAt fs y) y = true → leF xss x y = true
theorem LfP.of (h : lfB n l xss fs = true) (hx : xss.length = n) (hl : fs.length = l) : ∃ x : Nat, lfV n l xss fs = (x : Int) ∧ LfP n l x xss fs := by
  have h0 := h
  unfold lfB at h
  rw [Bool.and_eq_true, tt_iff] at h
  obtain ⟨h1, h2, h3⟩ := h
  obtain ⟨g1, -, -, hln, hin, -⟩ := mapS_true h1
  have hf : MapI n n fs := ⟨by omega, hin⟩
  obtain ⟨k1, k2, k3⟩ := lfp_ok (hx ▸ g1.2.2) h2 h3 hf
  refine ⟨lfp fs n (bot (leF xss) n), by unfold lfV; rw [h0]; rfl, g1, hln, by have := g1.1; omega, hf, k1, ?_, fun y hy h => k3 y ⟨hy, h⟩⟩
  have := (hf.at k1).2
  rw [k2] at this
  exact this
end
end Go.Proofs.Ytlncpabnlnipoaa
