
/- Walks: NameOf of the program and of the reference. -/
import Derived.Test.YtbpdbimdefdefaaCat1
namespace Go.Proofs.Ytbpdbimdefdefaa
open Go.RowKit

/-- The canonical form handed back, as it reads. -/
def FormR (x : AlgebraM) (w : World) (V : Option Addr) (L vc : Nat) (w' : World) : Prop := shAlgebra.rd w' [.int .i64 (canA x).1, .slice V L vc] (canA x) ∧ Below w.heap.size w w'
theorem canonR {cs : List Value} {x : AlgebraM} {w : World} (h : shAlgebra.rd w cs x) (hx : SmallP x) :
    Calls Try.prog 57 #[.agg cs.toArray] w (fun e w' => ∃ V L vc u, e = .returned (.tuple #[.agg #[.int .i64 (canA x).1, .slice V L vc], u]) ∧ FormR x w V L vc w') := by
  obtain ⟨n, hn⟩ : ∃ n : Nat, x.1 = (n : Int) := ⟨x.1.toNat, by have h1 := hx.1; omega⟩
  refine (canonical_any cs x n w h hx hn).mono ?_
  rintro e w' ⟨vb, css, bls, Af, cf, rfl, hP, -, hb⟩
  obtain ⟨V, vc, rfl⟩ := own_slice hP.2.1
  have e1 : (canA x).1 = (n : Int) := by rw [← hn]; rfl
  refine ⟨V, (canA x).2.length, vc, _, by rw [e1], ?_, hb⟩
  exact hP.alg (show InR (canA x).1 from small_R (canA_small hx))
theorem formR {cs : List Value} {x : AlgebraM} {w : World} (h : shAlgebra.rd w cs x) (hx : SmallP x) :
    Calls Try.prog 53 #[.agg cs.toArray] w (fun e w' => ∃ V L vc, e = .returned (.agg #[.int .i64 (canA x).1, .slice V L vc]) ∧ FormR x w V L vc w') := by
  refine (l31Form_any cs x w h hx).mono ?_
  rintro e w' ⟨v, css, bls, rfl, hP, hb⟩
  obtain ⟨V, vc, rfl⟩ := own_slice hP.2.1
  exact ⟨V, (canA x).2.length, vc, rfl, hP.alg (show InR (canA x).1 from small_R (canA_small hx)), hb⟩

noncomputable def findN (y : AlgebraM) : List EntryM → ByteArray × Bool
  | [] => (⟨#[]⟩, false)
  | e :: l => if eqC e.2 y then (e.1, true) else findN y l
noncomputable def noP (xs : List EntryM) (x : AlgebraM) : ByteArray × Bool := if catB xs && smallB x then findN (canA x) xs else (⟨#[]⟩, false)
def FAt (y : AlgebraM) (xs : List EntryM) (k : Nat) : Prop := findN y (xs.drop k) = findN y xs
theorem FAt.step {y : AlgebraM} {xs : List EntryM} {k : Nat} {e : EntryM} (h : FAt y xs k) (hd : xs.drop k = e :: xs.drop (k + 1)) (hn : eqC e.2 y = false) : FAt y xs (k + 1) := by
  unfold FAt at *
  rw [hd, findN, hn, if_neg (by decide)] at h
  exact h
theorem FAt.stop {y : AlgebraM} {xs : List EntryM} {k : Nat} {e : EntryM} (h : FAt y xs k) (hd : xs.drop k = e :: xs.drop (k + 1)) (hn : eqC e.2 y = true) : findN y xs = (e.1, true) := by
  unfold FAt at *
  rw [hd, findN, hn, if_pos rfl] at h
  exact h.symm
theorem FAt.done {y : AlgebraM} {xs : List EntryM} {k : Nat} (h : FAt y xs k) (hk : ¬ k < xs.length) : findN y xs = (⟨#[]⟩, false) := by
  unfold FAt at *
  rw [List.drop_eq_nil_of_le (by omega), findN] at h
  exact h.symm
theorem catF_small {e : EntryM} : ∀ {pre l : List EntryM}, catF pre l = true → e ∈ l → SmallP e.2
  | pre, f :: l, h, he => by
    rw [catF, Bool.and_eq_true] at h
    rcases List.mem_cons.1 he with rfl | he
    · have := h.1
      unfold okE at this
      simp only [Bool.and_eq_true] at this
      exact small_iff.1 this.2.2.1
    · exact catF_small h.2 he
theorem cat_small {xs : List EntryM} (h : catB xs = true) {e : EntryM} (he : e ∈ xs) : SmallP e.2 := by
  unfold catB at h
  rw [Bool.and_eq_true] at h
  exact catF_small h.2 he

/-! ## The forms that the laws cite -/
theorem isCatv_any (v : Value) (xs : List EntryM) (w : World) (h : (Sh.rows shEntry 64).rd w [v] xs) : Calls Try.prog 44 #[v] w (Bl w (.bool (catB xs))) := by
  obtain ⟨A, n, c, e, r⟩ := h
  injection e with e _
  subst e
  exact isCat_any A n c xs w r
end Go.Proofs.Ytbpdbimdefdefaa
