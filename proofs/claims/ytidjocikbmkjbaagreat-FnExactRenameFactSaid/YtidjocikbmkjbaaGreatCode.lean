
/- Walks: the code of an algebra; CodeOf. -/
import Derived.Test.YtidjocikbmkjbaaGreatAlg
namespace Go.Proofs.YtidjocikbmkjbaaGreat
open Go.RowKit

def codeL : List OpM → List Int
  | [] => []
  | x :: l => x.2 ++ codeL l
theorem codeL_len : ∀ xs : List OpM, (codeL xs).length = cntS shOp.cnt xs
  | [] => rfl
  | x :: l => by
    rw [codeL, List.length_append, codeL_len l, cntS_cons]
    show x.2.length + _ = (0 + x.2.length) + _
    omega
theorem codeL_R {w : World} {A : Option Addr} {n : Nat} : ∀ {xs : List OpM}, RdN shOp.m shOp.rd w A n xs → ∀ y ∈ codeL xs, InR y := by
  intro xs h
  have key : ∀ x ∈ xs, ∀ y ∈ x.2, InR y := fun x hx y hy => by
    obtain ⟨k, hk⟩ := List.getElem?_of_mem hx
    obtain ⟨b, o, vs, -, -, -, hr⟩ := h.2.2 k x hk
    obtain ⟨B, m, d, -, -, qt⟩ := rdOp hr
    exact qt.bounds y hy
  clear h
  induction xs with
  | nil => intro y hy; simp [codeL] at hy
  | cons x l ih =>
    intro y hy
    rw [codeL, List.mem_append] at hy
    rcases hy with hy | hy
    · exact key x (List.mem_cons_self ..) y hy
    · exact ih (fun x' hx' => key x' (List.mem_cons_of_mem _ hx')) y hy
/-- What has been gathered, and what the rest gives. -/
def CdAt (xs : List OpM) (k : Nat) (acc : List Int) : Prop := acc ++ codeL (xs.drop k) = codeL xs
theorem CdAt.step {xs : List OpM} {k : Nat} {acc : List Int} {x : OpM} (h : CdAt xs k acc) (hd : xs.drop k = x :: xs.drop (k + 1)) : CdAt xs (k + 1) (acc ++ x.2) := by
  unfold CdAt at *
  rw [← h, hd, codeL, List.append_assoc]
theorem CdAt.done {xs : List OpM} {k : Nat} {acc : List Int} (h : CdAt xs k acc) (hd : xs.drop k = []) : acc = codeL xs := by
  unfold CdAt at h
  rwa [hd, codeL, List.append_nil] at h
theorem CdAt.len {xs : List OpM} {k : Nat} {acc : List Int} {x : OpM} (h : CdAt xs k acc) (hd : xs.drop k = x :: xs.drop (k + 1)) : acc.length + x.2.length ≤ cntS shOp.cnt xs := by
  unfold CdAt at h
  have := congrArg List.length h
  rw [hd, codeL, List.length_append, List.length_append, codeL_len] at this
  have h2 := codeL_len xs
  omega
/-- A code handed back. -/
def CodeE (w : World) (xs : List OpM) (e : Ending) (w' : World) : Prop := ∃ A c, e = .returned (.slice A (codeL xs).length c) ∧ w'.ownsRow w.heap.size 3 1 (.slice A (codeL xs).length c) (codeL xs).length (ints (codeL xs)) ∧ Below w.heap.size w w'

theorem lit_below {w w0 : World} (hT : Below w.heap.size w w0) : (w0.alloc (.cells #[] 3)).ownsRow w.heap.size 3 1 (.slice (some ⟨w0.heap.size, 0, none⟩) 0 0) 0 [] := World.ownsRow_lit _ _ _ hT.size (Nat.zero_le _) rfl
theorem own_off {w : World} {base : Nat} {e : TypeId} {size : Nat} {v : Value} {n : Nat} {xs : List Value} (h : w.ownsRow base e size v n xs) {g : Nat} {t : TypeId} {cs : Array Value} (hB : Blk w g t cs) (hne : e ≠ t) : v.ownBlock ≠ some g := by
  rcases h.2 with ⟨rfl, _⟩ | ⟨g1, cap, cur, rfl, _, hh, _⟩
  · simp [Value.ownBlock]
  · intro hc
    simp only [Value.ownBlock, Option.some.injEq] at hc
    subst hc
    rw [hB] at hh
    injection hh with hh
    injection hh with _ ht
    exact hne ht.symm
/-! ## CodeOf -/
def codeM (x : AlgebraM) : List Int := if smallB x then codeL x.2 else []
theorem own_shape {w : World} {base : Nat} {v : Value} {xs : List Int} (h : w.ownsRow base 3 1 v xs.length (ints xs)) (hx : ∀ y ∈ xs, InR y) : (Sh.il 3).own w [v] xs (obl v) := ⟨v, rfl, own_mono h (Nat.zero_le _), hx, rfl⟩
theorem obl_iv {w : World} {base size : Nat} {e : TypeId} {v : Value} {n : Nat} {xs : List Value} (h : w.ownsRow base e size v n xs) : Iv base w.heap.size (obl v) := by
  refine ⟨?_, fun b hb => h.lt b (mem_obl.1 hb)⟩
  unfold obl
  cases v.ownBlock <;> simp
theorem codeM_len {x : AlgebraM} (h : shAlgebra.cnt x ≤ 1048576) : (codeM x).length ≤ 4194304 := by
  have hcn : 0 + (x.2.length + cntS shOp.cnt x.2) ≤ 1048576 := h
  unfold codeM
  split
  · rw [codeL_len]; omega
  · exact Nat.zero_le _
theorem mcle_stAlgebra {x : AlgebraM} (h : shAlgebra.cnt x ≤ 1048576) : msAlgebra x ≤ 4194304 := by
  have hcn : 0 + (x.2.length + cntS shOp.cnt x.2) ≤ 1048576 := h
  have : ∀ l : List OpM, cntS mcOp l = l.length + cntS shOp.cnt l := fun l => by
    induction l with
    | nil => rfl
    | cons y l ih =>
      rw [cntS_cons, cntS_cons, ih, List.length_cons]
      show 1 + y.2.length + _ = _ + ((0 + y.2.length) + _)
      omega
  unfold msAlgebra
  rw [this]
  omega
end Go.Proofs.YtidjocikbmkjbaaGreat
