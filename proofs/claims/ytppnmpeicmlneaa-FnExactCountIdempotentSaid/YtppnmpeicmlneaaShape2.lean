
/- Shapes: how much is left of a size, equality part by part, and how an argument's reading opens to a shape. -/
import Derived.Test.YtppnmpeicmlneaaShape
import Derived.Test.YtppnmpeicmlneaaOpen
namespace Go.Proofs.Ytppnmpeicmlneaa
open Go.ChangeShapes Go.WideShapes Go.ChangeAt Go.RowKit Go.Joins Go.Deep

/-! ## Sizes -/
def szR (c : Nat) (left : Int) : Int := if left < c then -1 else left - c
theorem szInts_szR (xs : List Int) (left : Int) : szInts xs left = szR xs.length left := by
  unfold szInts szR
  by_cases h : left - xs.length < 0
  · rw [if_pos h, if_pos (by omega)]
  · rw [if_neg h, if_neg (by omega)]
theorem szR_add {a b : Nat} {left : Int} (h : ¬ szR a left < 0) : szR b (szR a left) = szR (a + b) left := by
  unfold szR at *
  split at h
  · omega
  · rename_i h1
    rw [if_neg h1]
    by_cases h2 : left - a < b
    · rw [if_pos h2, if_pos (by omega)]
    · rw [if_neg h2, if_neg (by omega)]; omega
theorem szR_neg {a b : Nat} {left : Int} (h : szR a left < 0) (_hl : 0 ≤ left) : (-1 : Int) = szR (a + b) left := by
  unfold szR at *
  split at h
  · rw [if_pos (by omega)]
  · omega
theorem szR_neg1 {a : Nat} {left : Int} (h : szR a left < 0) (_hl : 0 ≤ left) : (-1 : Int) = szR a left := by
  unfold szR at *
  split at h
  · rename_i h1; rw [if_pos h1]
  · omega
theorem szR_bd (a : Nat) {left : Int} (hl : 0 ≤ left) : -1 ≤ szR a left ∧ szR a left ≤ left := by
  unfold szR
  split <;> omega
theorem szR_ok {a : Nat} {left : Int} (h : ¬ szR a left < 0) : (a : Int) ≤ left := by
  unfold szR at h
  split at h <;> omega
theorem szR_zero {left : Int} (h : 0 ≤ left) : szR 0 left = left := by
  have h' : ¬ left < ((0 : Nat) : Int) := by omega
  unfold szR
  rw [if_neg h']
  omega
theorem szR_sub_neg {a : Nat} {left : Int} (h : left - a < 0) (b : Nat) : (-1 : Int) = szR (a + b) left := by
  unfold szR
  rw [if_pos (by omega)]
theorem szR_sub {a : Nat} {left : Int} (_h : ¬ left - a < 0) (b : Nat) : szR b (left - a) = szR (a + b) left := by
  unfold szR
  by_cases h2 : left - a < b
  · rw [if_pos h2, if_pos (by omega)]
  · rw [if_neg h2, if_neg (by omega)]; omega
def cntS {α : Type} (f : α → Nat) (xs : List α) : Nat := (xs.map f).sum
theorem cntS_cons {α : Type} (f : α → Nat) (x : α) (xs : List α) : cntS f (x :: xs) = f x + cntS f xs := by simp [cntS]
theorem cntS_nil {α : Type} (f : α → Nat) : cntS f [] = 0 := rfl
theorem cntS_mem {α : Type} {f : α → Nat} : ∀ {xs : List α} {x : α}, x ∈ xs → f x ≤ cntS f xs
  | y :: l, x, h => by
    rw [cntS_cons]
    rcases List.mem_cons.1 h with rfl | h
    · omega
    · have := cntS_mem (f := f) h
      omega
def SumAt {α : Type} (f : α → Nat) (xs : List α) (l0 left : Int) (k : Nat) : Prop := szR (cntS f (xs.drop k)) left = szR (cntS f xs) l0
section
variable {α : Type} {f : α → Nat} {xs : List α} {l0 left : Int} {k : Nat} {x : α}
theorem SumAt.start (f : α → Nat) (xs : List α) (l0 : Int) : SumAt f xs l0 l0 0 := rfl
theorem SumAt.step (h : SumAt f xs l0 left k) (h1 : xs.drop k = x :: xs.drop (k + 1)) (h2 : ¬ szR (f x) left < 0) : SumAt f xs l0 (szR (f x) left) (k + 1) := by
  unfold SumAt at *; rw [← h, h1, cntS_cons, szR_add h2]
theorem SumAt.stop (h : SumAt f xs l0 left k) (h1 : xs.drop k = x :: xs.drop (k + 1)) (h2 : szR (f x) left < 0) (hl : 0 ≤ left) : -1 = szR (cntS f xs) l0 := by
  unfold SumAt at *; rw [← h, h1, cntS_cons]; exact szR_neg h2 hl
theorem SumAt.done (h : SumAt f xs l0 left k) (h1 : xs.drop k = []) (hl : 0 ≤ left) : left = szR (cntS f xs) l0 := by
  unfold SumAt at *; rw [← h, h1, cntS_nil, szR_zero hl]
end

theorem szR_le {a c : Nat} {left : Int} (h : szR a left < 0) (hac : a ≤ c) (hl : 0 ≤ left) : (-1 : Int) = szR c left := by
  have := szR_neg (b := c - a) h hl
  rwa [show a + (c - a) = c by omega] at this

theorem szR_lt {a c s : Nat} {left L : Int} (hc : szR a left = L) (hL : 0 ≤ L) (hz : L - s < 0) (hac : a + s ≤ c) (h0 : 0 ≤ left) : (-1 : Int) = szR c left := by
  have e : szR s L < 0 := by unfold szR; rw [if_pos (by omega)]; decide
  rw [← hc, szR_add (by rw [hc]; omega)] at e
  exact szR_le e hac h0
theorem szR_ge {a s : Nat} {left L : Int} (hc : szR a left = L) (hL : 0 ≤ L) (hz : ¬ L - s < 0) : szR (a + s) left = L - s := by
  rw [← szR_add (by rw [hc]; omega), hc]
  unfold szR
  rw [if_neg (by omega)]

/-! ## Equality -/
/-- Are they the same? For things of whatever type. -/
noncomputable def eqC {α : Type} (x y : α) : Bool := @decide (x = y) (Classical.propDecidable _)
theorem eqC_iff {α : Type} {x y : α} : eqC x y = true ↔ x = y := by unfold eqC; exact @decide_eq_true_iff _ (Classical.propDecidable _)
theorem eqC_no {α : Type} {x y : α} : eqC x y = false ↔ ¬ x = y := by
  constructor
  · intro h e
    rw [eqC_iff.2 e] at h
    cases h
  · intro h
    rcases e : eqC x y with _ | _
    · rfl
    · exact absurd (eqC_iff.1 e) h
theorem eqC_self {α : Type} (x : α) : eqC x x = true := eqC_iff.2 rfl
theorem eqC_dec {α : Type} [DecidableEq α] (x y : α) : eqC x y = decide (x = y) := by
  by_cases h : x = y
  · rw [eqC_iff.2 h]; simp [h]
  · rw [eqC_no.2 h]; simp [h]
theorem eqL_dec (xs ys : List Int) : eqL xs ys = eqC xs ys := by
  rcases h : eqL xs ys with _ | _
  · symm; rw [eqC_no]; intro e; rw [eqL_iff.2 e] at h; exact absurd h (by decide)
  · symm; rw [eqC_iff]; exact eqL_iff.1 h
theorem neq_int {x y : Int} {b : Bool} (h : eqC x y = b) : (x != y) = !b := by
  subst h
  rw [eqC_dec]
  by_cases e : x = y
  · subst e; simp
  · simp [e]
theorem eqq_bool {x y : Bool} {b : Bool} (h : eqC x y = b) : (x == y) = b := by
  subst h
  rw [eqC_dec]
  cases x <;> cases y <;> rfl
theorem eqq_str {x y : ByteArray} {b : Bool} (h : eqC x y = b) : (x.toList == y.toList) = b := by
  subst h
  rw [ByteArray.toList_eq, ByteArray.toList_eq]
  by_cases e : x = y
  · subst e; rw [eqC_self]; simp
  · have h2 : ¬ x.data.toList = y.data.toList := fun e2 => e (bs_inj e2)
    rw [eqC_no.2 e]
    exact beq_eq_false_iff_ne.2 h2
def EqdAt {α : Type} (xs ys : List α) (k : Nat) : Prop := eqC (xs.drop k) (ys.drop k) = eqC xs ys
theorem eqC_cons {α : Type} (x y : α) (xs ys : List α) : eqC (x :: xs) (y :: ys) = (eqC x y && eqC xs ys) := by
  rw [Bool.eq_iff_iff, Bool.and_eq_true, eqC_iff, eqC_iff, eqC_iff]; simp
section
variable {α : Type} {xs ys : List α} {k : Nat} {x y : α}
theorem EqdAt.start (xs ys : List α) : EqdAt xs ys 0 := rfl
theorem EqdAt.step (h : EqdAt xs ys k) (h1 : xs.drop k = x :: xs.drop (k + 1)) (h2 : ys.drop k = y :: ys.drop (k + 1)) (he : eqC x y = true) : EqdAt xs ys (k + 1) := by
  unfold EqdAt at *; rw [← h, h1, h2, eqC_cons, he]; rfl
theorem EqdAt.stop (h : EqdAt xs ys k) (h1 : xs.drop k = x :: xs.drop (k + 1)) (h2 : ys.drop k = y :: ys.drop (k + 1)) (he : eqC x y = false) : false = eqC xs ys := by
  unfold EqdAt at *; rw [← h, h1, h2, eqC_cons, he]; rfl
theorem EqdAt.done (h : EqdAt xs ys k) (h1 : xs.drop k = []) (h2 : ys.drop k = []) : true = eqC xs ys := by
  unfold EqdAt at *; rw [← h, h1, h2, eqC_self]
theorem eqd_len {n m : Nat} (h1 : xs.length = n) (h2 : ys.length = m) (h : ¬ n = m) : false = eqC xs ys := by
  symm; rw [eqC_no]; intro e; subst e; omega
end
theorem dec_pair {α β : Type} (a c : α) (b d : β) : eqC (a, b) (c, d) = (eqC a c && eqC b d) := by
  rw [Bool.eq_iff_iff, Bool.and_eq_true, eqC_iff, eqC_iff, eqC_iff]; simp

/-! ## Blocks between two marks -/
def Iv (lo hi : Nat) (bl : List Nat) : Prop := bl.Nodup ∧ ∀ b ∈ bl, lo ≤ b ∧ b < hi
theorem Iv.nil (lo hi : Nat) : Iv lo hi [] := ⟨List.nodup_nil, fun b hb => by simp at hb⟩
theorem Iv.app {lo m1 m2 hi : Nat} {a b : List Nat} (ha : Iv lo m1 a) (hb : Iv m2 hi b) (h1 : lo ≤ m2) (h2 : m1 ≤ m2) (h3 : m2 ≤ hi) : Iv lo hi (a ++ b) := by
  refine ⟨List.nodup_append.2 ⟨ha.1, hb.1, fun x hx y hy => ?_⟩, fun x hx => ?_⟩
  · have := (ha.2 x hx).2
    have := (hb.2 y hy).1
    omega
  · rcases List.mem_append.1 hx with h | h
    · have := ha.2 x h
      omega
    · have := hb.2 x h
      omega
theorem Iv.app0 {lo hi : Nat} {a : List Nat} (ha : Iv lo hi a) : Iv lo hi (a ++ []) := by rw [List.append_nil]; exact ha
theorem Iv.mono {lo hi lo' hi' : Nat} {a : List Nat} (h : Iv lo hi a) (h1 : lo' ≤ lo) (h2 : hi ≤ hi') : Iv lo' hi' a := ⟨h.1, fun x hx => by have := h.2 x hx; omega⟩
theorem Sh.onext {α : Type} {S : Sh α} {w w' : World} {cs : List Value} {x : α} {bl : List Nat} (h : S.own w cs x bl) (hb : Below w.heap.size w w') : S.own w' cs x bl := S.osame h fun b hb' => hb.block b (S.olt h b hb')
theorem Sh.oset {α : Type} {S : Sh α} {w : World} {cs : List Value} {x : α} {bl : List Nat} {lo hi : Nat} (h : S.own w cs x bl) (hi' : Iv lo hi bl) {p : Addr} (hp : p.block < lo) (v : Value) : S.own (w.setCell p v) cs x bl :=
  S.osame h fun b hb => Below.heap_setCell w p v b (fun e => by have := (hi'.2 b hb).1; omega)
theorem Sh.okept {α : Type} {S : Sh α} {w w' : World} {cs : List Value} {x : α} {bl : List Nat} {lo hi : Nat} (h : S.own w cs x bl) (hi' : Iv lo hi bl) {lo' hi'' : Nat} (hc : Chg lo' hi'' w w') (h1 : hi'' ≤ lo) : S.own w' cs x bl :=
  S.osame h fun b hb => hc.block b (S.olt h b hb) (.inr (by have := (hi'.2 b hb).1; omega))
/-- A copy handed back: a struct, one value. -/
def ToE {α : Type} (S : Sh α) (w : World) (x : α) (e : Ending) (w' : World) : Prop := ∃ cs bl, e = .returned (.agg cs.toArray) ∧ S.own w' cs x bl ∧ Iv w.heap.size w'.heap.size bl ∧ Below w.heap.size w w'
def ToV {α : Type} (S : Sh α) (w : World) (x : α) (e : Ending) (w' : World) : Prop := ∃ v bl, e = .returned v ∧ S.own w' [v] x bl ∧ Iv w.heap.size w'.heap.size bl ∧ Below w.heap.size w w'
theorem made_flat (zc : List Value) (n : Nat) (hm : 0 < zc.length) : (madeCells zc.toArray (n * zc.length)).toList = (List.replicate n zc).flatten := by
  have hall : ∀ c ∈ List.replicate n zc, c.length = zc.length := fun c hc => by rw [(List.mem_replicate.1 hc).2]
  apply List.ext_getElem?
  intro i
  have hd := Nat.div_add_mod i zc.length
  have hr := Nat.mod_lt i hm
  have hg := flat_get hall (i / zc.length) (i % zc.length) hr
  rw [Nat.mul_comm, hd] at hg
  rw [hg, List.getElem?_replicate]
  by_cases hi : i < n * zc.length
  · rw [if_pos ((Nat.div_lt_iff_lt_mul hm).2 hi)]
    have h1 : zc[i % zc.length]? = some (zc[i % zc.length]'hr) := List.getElem?_eq_getElem hr
    simp [madeCells, hi, h1]
  · rw [if_neg (fun h => hi ((Nat.div_lt_iff_lt_mul hm).1 h))]
    simp [madeCells, hi]
/-- The three boxes of a copy of a struct. -/
theorem boxes3 (w : World) (cp cz co : Array Value) (tp tr : TypeId) : ∃ w3, w3 = ((w.alloc (.cells cp tp)).alloc (.cells cz tr)).alloc (.cells co tr) ∧ Below w.heap.size w w3 ∧ w3.heap.size = w.heap.size + 3 ∧ Blk w3 w.heap.size tp cp ∧ Blk w3 (w.heap.size + 1) tr cz ∧ Blk w3 (w.heap.size + 1 + 1) tr co := by
  refine ⟨_, rfl, below_box3 _ _ _ _, by simp, ((Blk.new w _ _).next (below_box _ _)).next (below_box _ _), ?_, ?_⟩
  · have := (Blk.new (w.alloc (.cells cp tp)) tr cz).next (below_box _ (.cells co tr))
    rwa [World.size_alloc] at this
  · have := Blk.new ((w.alloc (.cells cp tp)).alloc (.cells cz tr)) tr co
    rwa [World.size_alloc, World.size_alloc] at this
theorem boxes2 (w : World) (cp cz : Array Value) (tp tr : TypeId) : ∃ w3, w3 = (w.alloc (.cells cp tp)).alloc (.cells cz tr) ∧ Below w.heap.size w w3 ∧ w3.heap.size = w.heap.size + 2 ∧ Blk w3 w.heap.size tp cp ∧ Blk w3 (w.heap.size + 1) tr cz := by
  refine ⟨_, rfl, below_box2 _ _ _, by simp, (Blk.new w _ _).next (below_box _ _), ?_⟩
  have := Blk.new (w.alloc (.cells cp tp)) tr cz
  rwa [World.size_alloc] at this
theorem boxes1 (w : World) (cp : Array Value) (tp : TypeId) : ∃ w3, w3 = w.alloc (.cells cp tp) ∧ Below w.heap.size w w3 ∧ w3.heap.size = w.heap.size + 1 ∧ Blk w3 w.heap.size tp cp := ⟨_, rfl, below_box _ _, by simp, Blk.new _ _ _⟩
theorem stab_same {α : Type} {S : Sh α} {w w' : World} {cs : List Value} {x : α} (h : S.rd w cs x) (hb : Below w.heap.size w w') : S.rd w' cs x := S.stab h hb.block

theorem keepc {w w' : World} {p : Addr} {v : Value} (hb : Below w.heap.size w w') (h : w.cell? p = some v) : w'.cell? p = some v := (hb.cell (cell_lt h)).trans h
theorem bl_same {P : Program} {f : FuncId} {args : Array Value} {w : World} {v : Value} (h : Calls P f args w fun e w' => e = .returned v ∧ w = w') : Calls P f args w (Bl w v) := bl_of_quiet (quiet_same h)

/-! ## Arguments -/
section
variable {H : Type} {enc : TypeId × Value → H} {P : Program} {w : World}
/-- Whatever reads as data of type t has shape S. -/
def OpensS {α : Type} (enc : TypeId × Value → H) (P : Program) (w : World) (t : TypeId) (S : Sh α) : Prop :=
  S.m = P.cellsOf t ∧ ∀ (fuel : Nat) (cs : List Value) (y : DataW H × List MemPlace), DataW.trod enc P w 0 (fun _ => true) true fuel t cs = some y → ∃ x, S.rd w cs x
theorem cell1 {α : Type} {R : World → Value → α → Prop} {t : TypeId} (h : Opens enc P w t R) (hl : ∀ (fuel : Nat) (cs : List Value) (y : DataW H × List MemPlace), DataW.trod enc P w 0 (fun _ => true) true fuel t cs = some y → cs.length = 1) :
    ∀ (fuel : Nat) (cs : List Value) (y : DataW H × List MemPlace), DataW.trod enc P w 0 (fun _ => true) true fuel t cs = some y → ∃ x v, cs = [v] ∧ R w v x := fun fuel cs y hh => by
  have hlen := hl fuel cs y hh
  match cs, hlen with
  | [v], _ =>
    obtain ⟨x, hx⟩ := h fuel v y hh
    exact ⟨x, v, rfl, hx⟩
theorem opensS_int {t : TypeId} (ht : P.underlying t = some (.int .i64)) (hc : P.cellsOf t = 1) : OpensS enc P w t Sh.int := ⟨hc.symm, fun fuel cs y h => by
  obtain ⟨x, v, e, hx⟩ := cell1 (opens_int ht) (fun f c z hz => by obtain ⟨n, e, -⟩ := DataW.trod_int ht hz; rw [e]; rfl) fuel cs y h
  exact ⟨x, v, e, hx⟩⟩
theorem opensS_bool {t : TypeId} (ht : P.underlying t = some .bool) (hc : P.cellsOf t = 1) : OpensS enc P w t Sh.bool := ⟨hc.symm, fun fuel cs y h => by
  obtain ⟨x, v, e, hx⟩ := cell1 (opens_bool ht) (fun f c z hz => by obtain ⟨n, e, -⟩ := DataW.trod_bool ht hz; rw [e]; rfl) fuel cs y h
  exact ⟨x, v, e, hx⟩⟩
theorem opensS_str {t : TypeId} (ht : P.underlying t = some .string) (hc : P.cellsOf t = 1) : OpensS enc P w t Sh.str := ⟨hc.symm, fun fuel cs y h => by
  obtain ⟨x, v, e, hx⟩ := cell1 (opens_string ht) (fun f c z hz => by obtain ⟨n, e, -⟩ := DataW.trod_string ht hz; rw [e]; rfl) fuel cs y h
  exact ⟨x, v, e, hx⟩⟩
theorem slice_len1 {t e : TypeId} (ht : P.underlying t = some (.slice e)) (fuel : Nat) (cs : List Value) (y : DataW H × List MemPlace) (h : DataW.trod enc P w 0 (fun _ => true) true fuel t cs = some y) : cs.length = 1 := by
  rcases open_slice ht h with ⟨e, -⟩ | ⟨a, len, cap, m, n, D, Pl, e, -⟩
  · rw [e]; rfl
  · rw [e]; rfl
theorem opensS_ints {t e E : TypeId} (ht : P.underlying t = some (.slice e)) (hc : P.cellsOf e = 1) (he : P.underlying e = some (.int .i64)) (hct : P.cellsOf t = 1) : OpensS enc P w t (Sh.il E) := ⟨hct.symm, fun fuel cs y h => by
  obtain ⟨x, v, e, hx⟩ := cell1 (opens_slice ht hc (opens_int he)).bare (slice_len1 ht) fuel cs y h
  exact ⟨x, v, e, hx⟩⟩
theorem opensS_rows {α : Type} {t e E : TypeId} {A : Sh α} (h0 : 0 < A.m) (ht : P.underlying t = some (.slice e)) (he : OpensS enc P w e A) (hct : P.cellsOf t = 1) : OpensS enc P w t (Sh.rows A E) := ⟨hct.symm, fun fuel cs y h => by
  rcases open_slice ht h with ⟨e, -⟩ | ⟨a, len, cap, m, n, D, Pl, e, -, hl, hm, hmm, -, hx⟩
  · exact ⟨[], none, 0, 0, e, RdN.nil _ _ _ _⟩
  · simp only [if_true] at hmm
    subst hmm
    have hch : ∀ k, k < len → ∃ x vs, w.cells? 0 (a.add (k * A.m)) A.m = some vs ∧ A.rd w vs x := fun k hk => by
      obtain ⟨vs, hv, ht'⟩ := hx k (by omega)
      obtain ⟨x, hr⟩ := he.2 n vs _ ht'
      rw [← he.1] at hv
      exact ⟨x, vs, hv, hr⟩
    obtain ⟨xs, hxl, hxp⟩ : ∃ l : List α, l.length = len ∧ ∀ (k : Nat) x, l[k]? = some x → ∃ vs, w.cells? 0 (a.add (k * A.m)) A.m = some vs ∧ A.rd w vs x := by
      clear hx hl hm e
      induction len with
      | zero => exact ⟨[], rfl, fun k x hx => by simp at hx⟩
      | succ len ih =>
        obtain ⟨l, hl, hp⟩ := ih fun k hk => hch k (by omega)
        obtain ⟨x, hx⟩ := hch len (by omega)
        refine ⟨l ++ [x], by simp [hl], fun k y hy => ?_⟩
        by_cases hk : k < len
        · rw [List.getElem?_append_left (by omega)] at hy
          exact hp k y hy
        · have hk2 := (List.getElem?_eq_some_iff.1 hy).1
          simp at hk2
          have hkn : k = len := by omega
          subst hkn
          rw [List.getElem?_append_right (by omega), hl, Nat.sub_self] at hy
          simp at hy
          subst hy
          exact hx
    refine ⟨xs, some a, len, m, e, hxl, by omega, fun k x hk => ?_⟩
    obtain ⟨vs, hv, hr⟩ := hxp k x hk
    obtain ⟨_, hcl, hat⟩ := World.cells?_some hv
    have hspot : a.spot = none := by
      have hk0 : 0 < xs.length := by have := (List.getElem?_eq_some_iff.1 hk).1; omega
      obtain ⟨vs', hv', -⟩ := hxp 0 _ (List.getElem?_eq_getElem hk0)
      obtain ⟨_, hcl', hat'⟩ := World.cells?_some hv'
      have h1 := hat' 0 h0
      have h2 : vs'[0]? = some (vs'[0]'(by omega)) := List.getElem?_eq_getElem (by omega)
      rw [h2] at h1
      have := World.cell?_spot h1
      simpa [Addr.add] using this
    obtain ⟨b, o, spot⟩ := a
    simp only at hspot
    subst hspot
    refine ⟨b, o, vs, rfl, hcl, fun i v hi => ?_, hr⟩
    have him : i < A.m := by have := (List.getElem?_eq_some_iff.1 hi).1; omega
    have h1 := hat i him
    rw [hi, add_add] at h1
    have ea : (⟨b, o, none⟩ : Addr).add (k * A.m + i) = ⟨b, o + k * A.m + i, none⟩ := by
      unfold Addr.add
      split
      · rename_i h0
        rw [Addr.mk.injEq]
        exact ⟨rfl, by show o = o + k * A.m + i; omega, rfl⟩
      · rw [Addr.mk.injEq]
        exact ⟨rfl, by show o + (k * A.m + i) = o + k * A.m + i; omega, rfl⟩
    rw [← ea]
    exact h1⟩
/-- The fields of a struct from a place on have shape S. -/
def OpensF {α : Type} (enc : TypeId × Value → H) (P : Program) (w : World) (fs : List Field) (off : Nat) (S : Sh α) : Prop :=
  ∀ (n : Nat) (cs : List Value), cs.length = off + S.m → (∀ f ∈ fs, ∃ y, DataW.trod enc P w 0 (fun _ => true) true n f.type ((cs.drop f.offset).take (P.cellsOf f.type)) = some y) → ∃ x, S.rd w (cs.drop off) x
theorem opensF_last {α : Type} {f : Field} {off : Nat} {A : Sh α} (ho : f.offset = off) (h : OpensS enc P w f.type A) : OpensF enc P w [f] off A := fun n cs hl hf => by
  obtain ⟨y, hy⟩ := hf f (List.mem_singleton.2 rfl)
  rw [ho, List.take_of_length_le (by rw [List.length_drop, hl, ← h.1]; omega)] at hy
  exact h.2 n _ y hy
theorem opensF_cons {α β : Type} {f : Field} {fs : List Field} {off : Nat} {A : Sh α} {B : Sh β} (ho : f.offset = off) (h : OpensS enc P w f.type A) (h' : OpensF enc P w fs (off + A.m) B) : OpensF enc P w (f :: fs) off (Sh.pair A B) := fun n cs hl hf => by
  have hl' : cs.length = off + (A.m + B.m) := hl
  obtain ⟨y, hy⟩ := hf f (List.mem_cons_self ..)
  obtain ⟨x, hx⟩ := h.2 n _ y hy
  obtain ⟨x', hx'⟩ := h' n cs (by omega) fun g hg => hf g (List.mem_cons_of_mem _ hg)
  rw [ho, ← h.1] at hx
  refine ⟨(x, x'), (cs.drop off).take A.m, cs.drop (off + A.m), ?_, hx, hx'⟩
  rw [← List.drop_drop, List.take_append_drop]
theorem opensS_struct {α : Type} {t : TypeId} {fs : Array Field} {S : Sh α} (ht : P.underlying t = some (.struct fs)) (hm : S.m = P.cellsOf t) (h : OpensF enc P w fs.toList 0 S) : OpensS enc P w t S := ⟨hm, fun fuel cs y hh => by
  obtain ⟨xs, n, -, -, hlen, hxl, hf⟩ := DataW.trod_struct ht hh
  obtain ⟨x, hx⟩ := h n cs (by rw [hlen, hm, Nat.zero_add]) fun f hfm => by
    obtain ⟨i, hi⟩ := List.getElem?_of_mem hfm
    have hi' : fs[i]? = some f := by simpa using hi
    have hil := (Array.getElem?_eq_some_iff.1 hi').1
    have hg := hf i f hi'
    exact ⟨xs[i]'(by omega), by rw [hg]; exact List.getElem?_eq_getElem (by omega)⟩
  exact ⟨x, by simpa using hx⟩⟩
/-- A struct that comes in by value. -/
theorem open_struct {α : Type} {r : Reach} {b0 : Nat} {t : TypeId} {fs : Array Field} {v : Value} {d : DataW H} {p : List MemPlace} {S : Sh α} (ht : P.underlying t = some (.struct fs)) (hS : OpensS enc P w t S)
    (hv : Value.okWide P w r b0 t v) (h : DataW.Trod enc P w 0 (fun _ => true) true t v d p) : ∃ cs x, v = .agg cs ∧ S.rd w cs.toList x := by
  obtain ⟨cs, rfl, -⟩ := okWide_struct ht hv
  obtain ⟨fuel, hf⟩ := h
  obtain ⟨x, hx⟩ := hS.2 fuel _ _ hf
  exact ⟨cs, x, rfl, by simpa [Value.cells] using hx⟩
theorem open_shape {α : Type} {t : TypeId} {v : Value} {d : DataW H} {p : List MemPlace} {S : Sh α} (hS : OpensS enc P w t S) (h1 : v.cells.toList = [v]) (h : DataW.Trod enc P w 0 (fun _ => true) true t v d p) : ∃ x, S.rd w [v] x := by
  obtain ⟨fuel, hf⟩ := h
  obtain ⟨x, hx⟩ := hS.2 fuel _ _ hf
  rw [h1] at hx
  exact ⟨x, hx⟩
end
end Go.Proofs.Ytppnmpeicmlneaa
