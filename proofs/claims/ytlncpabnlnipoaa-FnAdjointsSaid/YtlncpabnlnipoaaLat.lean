
/- Plain laws of lattices: meets, the bottom, the least fixed point of a map. -/
import Derived.Test.YtlncpabnlnipoaaAdj
namespace Go.Proofs.Ytlncpabnlnipoaa
open Go.RowKit

def mtF (F : Nat → Nat → Bool) (x : Nat) : Nat → Nat → Bool := fun z y => F z x && F z y
def mt (F : Nat → Nat → Bool) (n x y : Nat) : Int := grI F (rowTo (mtF F x) y n)
def duF (F : Nat → Nat → Bool) : Nat → Nat → Bool := fun x y => F y x
def MeetP (F : Nat → Nat → Bool) (n : Nat) : Prop := ∀ x < n, ∀ y < n, 0 ≤ mt F n x y
def LatP (F : Nat → Nat → Bool) (n : Nat) : Prop := n ≠ 0 ∧ MeetP F n ∧ MeetP (duF F) n

theorem rowTo_congr {F G : Nat → Nat → Bool} {x y q : Nat} (h : ∀ z < q, F z x = G z y) : rowTo F x q = rowTo G y q := by
  unfold rowTo
  congr 1
  apply List.filter_congr
  intro z hz
  exact h z (List.mem_range.1 hz)
theorem find_congr {P Q : Int → Bool} : ∀ {xs : List Int}, (∀ x ∈ xs, P x = Q x) → xs.find? P = xs.find? Q
  | [], _ => rfl
  | x :: xs, h => by
    rw [List.find?_cons, List.find?_cons, h x (by simp), find_congr fun y hy => h y (by simp [hy])]
theorem grI_congr {F G : Nat → Nat → Bool} {n : Nat} {xs : List Int} (hin : ∀ x ∈ xs, 0 ≤ x ∧ x ≤ (n : Int) - 1) (h : ∀ x < n, ∀ y < n, F x y = G x y) : grI F xs = grI G xs := by
  unfold grI
  rw [find_congr (P := belowAll F xs) (Q := belowAll G xs)]
  intro x hx
  unfold belowAll
  rw [Bool.eq_iff_iff, List.all_eq_true, List.all_eq_true]
  have hx' := hin x hx
  constructor
  · intro hh z hz
    have hz' := hin z hz
    rw [← h _ (by omega) _ (by omega)]
    exact hh z hz
  · intro hh z hz
    have hz' := hin z hz
    rw [h _ (by omega) _ (by omega)]
    exact hh z hz
theorem mt_congr {F G : Nat → Nat → Bool} {n x y : Nat} (h : ∀ x < n, ∀ y < n, F x y = G x y) (hx : x < n) (hy : y < n) : mt F n x y = mt G n x y := by
  unfold mt
  rw [rowTo_congr (F := mtF F x) (G := mtF G x) (x := y) (y := y) fun z hz => by unfold mtF; rw [h z hz x hx, h z hz y hy]]
  exact grI_congr row_in h
theorem meet_congr {F G : Nat → Nat → Bool} {n : Nat} (h : ∀ x < n, ∀ y < n, F x y = G x y) : MeetP F n ↔ MeetP G n :=
  ⟨fun hh x hx y hy => by rw [← mt_congr h hx hy]; exact hh x hx y hy, fun hh x hx y hy => by rw [mt_congr h hx hy]; exact hh x hx y hy⟩
theorem mt_comm {F : Nat → Nat → Bool} {n x y : Nat} : mt F n x y = mt F n y x := by
  unfold mt
  rw [rowTo_congr (F := mtF F x) (G := mtF F y) (x := y) (y := x) fun z _ => by unfold mtF; rw [Bool.and_comm]]
theorem below_mem {F : Nat → Nat → Bool} {xs : List Int} {v : Int} : belowAll F xs v = true ↔ ∀ z ∈ xs, F z.toNat v.toNat = true := by
  unfold belowAll
  rw [List.all_eq_true]
theorem mt_self {F : Nat → Nat → Bool} {n x : Nat} (hO : OrdP n F) (hx : x < n) : 0 ≤ mt F n x x := by
  unfold mt
  have hm : (x : Int) ∈ rowTo (mtF F x) x n := rowTo_mem.2 ⟨x, hx, by unfold mtF; rw [(hO x hx).1]; rfl, rfl⟩
  rw [gr_last hO row_in hm (below_mem.2 fun z hz => by
    obtain ⟨y, hy, h1, rfl⟩ := rowTo_mem.1 hz
    unfold mtF at h1
    rw [Bool.and_eq_true] at h1
    simpa using h1.1)]
  omega
theorem mt_ok {F : Nat → Nat → Bool} {n x y : Nat} (h : 0 ≤ mt F n x y) : ∃ z : Nat, mt F n x y = z ∧ z < n ∧ F z x = true ∧ F z y = true := by
  rcases grI_mem (F := F) (xs := rowTo (mtF F x) y n) row_in with h1 | h1
  · unfold mt at h
    omega
  · obtain ⟨-, -, hm⟩ := h1
    obtain ⟨z, hz, h1, h2⟩ := rowTo_mem.1 hm
    unfold mtF at h1
    rw [Bool.and_eq_true] at h1
    exact ⟨z, h2, hz, h1.1, h1.2⟩
theorem mt_in {F : Nat → Nat → Bool} {n x y : Nat} : mt F n x y = -1 ∨ (0 ≤ mt F n x y ∧ mt F n x y ≤ (n : Int) - 1) := by
  rcases grI_mem (F := F) (xs := rowTo (mtF F x) y n) row_in with h | h
  · exact .inl h
  · exact .inr ⟨h.1, h.2.1⟩
/-- The pairs y below x alone say whether all meets are there. -/
def MeetQ (F : Nat → Nat → Bool) (n : Nat) : Prop := ∀ x < n, ∀ y < x, 0 ≤ mt F n x y
theorem meet_pairs {F : Nat → Nat → Bool} {n : Nat} (hO : OrdP n F) : MeetQ F n ↔ MeetP F n := by
  constructor
  · intro h x hx y hy
    rcases Nat.lt_trichotomy x y with h1 | h1 | h1
    · rw [mt_comm]
      exact h y hy x h1
    · subst h1
      exact mt_self hO hx
    · exact h x hx y h1
  · intro h x hx y hy
    exact h x hx y (by omega)
theorem ord_rfl {F : Nat → Nat → Bool} {n x : Nat} (hO : OrdP n F) (hx : x < n) : F x x = true := (hO x hx).1
theorem ord_anti {F : Nat → Nat → Bool} {n x y : Nat} (hO : OrdP n F) (hx : x < n) (hy : y < n) (h1 : F x y = true) (h2 : F y x = true) : x = y := by
  by_cases h : x = y
  · exact h
  · exact absurd ⟨h, h1, h2⟩ ((hO x hx).2 y hy).1
theorem ord_tr {F : Nat → Nat → Bool} {n x y z : Nat} (hO : OrdP n F) (hx : x < n) (hy : y < n) (hz : z < n) (h1 : F x y = true) (h2 : F y z = true) : F x z = true := by
  rcases e : F x z with _ | _
  · exact absurd ⟨h1, h2, e⟩ (((hO x hx).2 y hy).2 z hz)
  · rfl
theorem ord_du {F : Nat → Nat → Bool} {n : Nat} (hO : OrdP n F) : OrdP n (duF F) := by
  intro x hx
  refine ⟨show F x x = true from ord_rfl hO hx, fun y hy => ⟨?_, fun z hz => ?_⟩⟩
  · rintro ⟨h, h1, h2⟩
    exact h (ord_anti hO hx hy h2 h1)
  · rintro ⟨h1, h2, h3⟩
    have := ord_tr hO hz hy hx h2 h1
    unfold duF at h3
    rw [this] at h3
    cases h3

/-! ## The bottom -/
def botTo (F : Nat → Nat → Bool) (n : Nat) : Nat → Nat
  | 0 => 0
  | k + 1 => (mt F n (botTo F n k) k).toNat
theorem botTo_ok {F : Nat → Nat → Bool} {n : Nat} (hO : OrdP n F) (hM : MeetP F n) (hn : n ≠ 0) : ∀ k, k ≤ n → botTo F n k < n ∧ ∀ z < k, F (botTo F n k) z = true
  | 0, _ => ⟨by show 0 < n; omega, upto0⟩
  | k + 1, hk => by
    obtain ⟨h1, h2⟩ := botTo_ok hO hM hn k (by omega)
    obtain ⟨z, e, hz, h3, h4⟩ := mt_ok (hM _ h1 k (by omega))
    show (mt F n (botTo F n k) k).toNat < n ∧ ∀ z < k + 1, F (mt F n (botTo F n k) k).toNat z = true
    rw [e, Int.toNat_natCast]
    exact ⟨hz, upto (fun y hy => ord_tr hO hz h1 (by omega) h3 (h2 y hy)) h4⟩
def bot (F : Nat → Nat → Bool) (n : Nat) : Nat := botTo F n n
def oneF : Nat → Nat → Bool := fun _ _ => true
theorem bot_gr {F : Nat → Nat → Bool} {n : Nat} (hO : OrdP n F) (hM : MeetP F n) (hn : n ≠ 0) : grI (duF F) (rowTo oneF 0 n) = bot F n := by
  obtain ⟨h1, h2⟩ := botTo_ok hO hM hn n (Nat.le_refl _)
  refine gr_last (ord_du hO) row_in (rowTo_mem.2 ⟨_, h1, rfl, rfl⟩) (below_mem.2 fun z hz => ?_)
  obtain ⟨y, hy, -, rfl⟩ := rowTo_mem.1 hz
  simpa [duF, bot] using h2 y hy

/-! ## The least fixed point -/
def lfp (fs : List Int) : Nat → Nat → Nat
  | 0, x => x
  | k + 1, x => if fAt fs x = x then x else lfp fs k (fAt fs x)
def rk (F : Nat → Nat → Bool) (n x : Nat) : Nat := (rowTo F x n).length
theorem rk_le (F : Nat → Nat → Bool) (n x : Nat) : rk F n x ≤ n := rowTo_len F x n
theorem filter_lt {P Q : Nat → Bool} : ∀ {l : List Nat}, (∀ x ∈ l, P x = true → Q x = true) → (∃ x ∈ l, Q x = true ∧ P x = false) → (l.filter P).length < (l.filter Q).length
  | [], _, h => by obtain ⟨x, hx, _⟩ := h; cases hx
  | a :: l, h, ⟨x, hx, h1, h2⟩ => by
    have hle : ∀ {l : List Nat}, (∀ x ∈ l, P x = true → Q x = true) → (l.filter P).length ≤ (l.filter Q).length := by
      intro l
      induction l with
      | nil => intro _; exact Nat.le_refl _
      | cons b l ih =>
        intro hh
        have h3 := ih fun y hy => hh y (by simp [hy])
        have h4 := hh b (by simp)
        rcases eP : P b with _ | _
        · rcases eQ : Q b with _ | _
          · rw [List.filter_cons_of_neg (by simp [eP]), List.filter_cons_of_neg (by simp [eQ])]; exact h3
          · rw [List.filter_cons_of_neg (by simp [eP]), List.filter_cons_of_pos eQ, List.length_cons]; omega
        · rw [List.filter_cons_of_pos eP, List.filter_cons_of_pos (h4 eP), List.length_cons, List.length_cons]; omega
    have ht : ∀ y ∈ l, P y = true → Q y = true := fun y hy => h y (by simp [hy])
    rcases List.mem_cons.1 hx with rfl | hx'
    · rw [List.filter_cons_of_neg (by simp [h2]), List.filter_cons_of_pos h1, List.length_cons]
      have := hle ht
      omega
    · have ih := filter_lt ht ⟨x, hx', h1, h2⟩
      have h4 := h a (by simp)
      rcases eP : P a with _ | _
      · rcases eQ : Q a with _ | _
        · rw [List.filter_cons_of_neg (by simp [eP]), List.filter_cons_of_neg (by simp [eQ])]; exact ih
        · rw [List.filter_cons_of_neg (by simp [eP]), List.filter_cons_of_pos eQ, List.length_cons]; omega
      · rw [List.filter_cons_of_pos eP, List.filter_cons_of_pos (h4 eP), List.length_cons, List.length_cons]; omega
theorem rk_lt {F : Nat → Nat → Bool} {n x y : Nat} (hO : OrdP n F) (hx : x < n) (hy : y < n) (h : F x y = true) (hne : x ≠ y) : rk F n x < rk F n y := by
  unfold rk rowTo
  rw [List.length_map, List.length_map]
  refine filter_lt (fun z hz h1 => ord_tr hO (List.mem_range.1 hz) hx hy h1 h) ⟨y, List.mem_range.2 hy, ord_rfl hO hy, ?_⟩
  rcases e : F y x with _ | _
  · rfl
  · exact absurd (ord_anti hO hx hy h e) hne
theorem rk_pos {F : Nat → Nat → Bool} {n x : Nat} (hO : OrdP n F) (hx : x < n) : 1 ≤ rk F n x := by
  unfold rk
  have : (x : Int) ∈ rowTo F x n := rowTo_mem.2 ⟨x, hx, ord_rfl hO hx, rfl⟩
  exact List.length_pos_of_mem this
/-- After j rounds from b the loop stands at x. -/
def LfpI (F : Nat → Nat → Bool) (fs : List Int) (n b j x : Nat) : Prop := x < n ∧ F x (fAt fs x) = true ∧ j + 1 ≤ rk F n x ∧ lfp fs (n - j) x = lfp fs n b
theorem LfpI.start {F : Nat → Nat → Bool} {fs : List Int} {n b : Nat} (hO : OrdP n F) (hb : b < n) (h : F b (fAt fs b) = true) : LfpI F fs n b 0 b := ⟨hb, h, rk_pos hO hb, rfl⟩
theorem LfpI.lt {F : Nat → Nat → Bool} {fs : List Int} {n b j x : Nat} (h : LfpI F fs n b j x) : j < n := by
  have := rk_le F n x
  have := h.2.2.1
  omega
theorem LfpI.next {F : Nat → Nat → Bool} {fs : List Int} {n b j x y : Nat} (hO : OrdP n F) (hM : MonP n F F fs) (h : LfpI F fs n b j x) (hy : y < n) (e : fAt fs x = y) (hne : y ≠ x) : LfpI F fs n b (j + 1) y := by
  have hj := h.lt
  obtain ⟨hx, h1, h2, h3⟩ := h
  rw [e] at h1
  have h4 := rk_lt hO hx hy h1 (fun e2 => hne e2.symm)
  refine ⟨hy, ?_, by omega, ?_⟩
  · have := hM x hx y hy
    unfold MonXY at this
    rw [e] at this
    rcases e2 : F y (fAt fs y) with _ | _
    · exact absurd ⟨h1, e2⟩ this
    · rfl
  · rw [← h3, show n - j = (n - (j + 1)) + 1 by omega]
    show _ = if fAt fs x = x then x else lfp fs _ (fAt fs x)
    rw [e, if_neg hne]
theorem LfpI.done {F : Nat → Nat → Bool} {fs : List Int} {n b j x : Nat} (h : LfpI F fs n b j x) (e : fAt fs x = x) : x = lfp fs n b := by
  have hj := h.lt
  rw [← h.2.2.2, show n - j = (n - (j + 1)) + 1 by omega]
  show _ = if fAt fs x = x then x else _
  rw [if_pos e]
noncomputable def lfB (n l : Nat) (xss : List (List Int)) (fs : List Int) : Bool := mapS n n l xss xss fs && tt (LatP (leF xss) n ∧ MonP n (leF xss) (leF xss) fs)
noncomputable def lfV (n l : Nat) (xss : List (List Int)) (fs : List Int) : Int := if lfB n l xss fs then lfp fs n (bot (leF xss) n) else 0
def LfE (w : World) (n l : Nat) (xss : List (List Int)) (fs : List Int) (e : Ending) (w' : World) : Prop := e = .returned (.tuple #[.int .i64 (lfV n l xss fs), .bool (lfB n l xss fs)]) ∧ Below w.heap.size w w'
theorem LfE.no {w w' : World} {n l : Nat} {xss : List (List Int)} {fs : List Int} (h : lfB n l xss fs = false) (hb : Below w.heap.size w w') : LfE w n l xss fs (.returned (.tuple #[.int .i64 0, .bool false])) w' := by
  refine ⟨?_, hb⟩
  unfold lfV
  rw [h]
  rfl
theorem LfE.yes {w w' : World} {n l x : Nat} {xss : List (List Int)} {fs : List Int} (h : lfB n l xss fs = true) (hx : x = lfp fs n (bot (leF xss) n)) (hb : Below w.heap.size w w') : LfE w n l xss fs (.returned (.tuple #[.int .i64 x, .bool true])) w' := by
  refine ⟨?_, hb⟩
  unfold lfV
  rw [h, hx]
  rfl
end Go.Proofs.Ytlncpabnlnipoaa
