
/- Worlds that grow beside a cursor's block. -/
import Derived.Test.YtlncpabnlnipoaaCurB
import Derived.Test.YtlncpabnlnipoaaSort
namespace Go.Proofs.Ytlncpabnlnipoaa
open Go.RowKit

theorem growB_trans {w w1 w2 : World} {r : Option Nat} (h : w.grownBy w1 r) (k : w1.grownBy w2 r) : w.grownBy w2 r :=
  ⟨k.os.trans h.os, k.tape.trans h.tape, k.output.trans h.output, Nat.le_trans h.size k.size, fun b hb hne => (k.block b (Nat.lt_of_lt_of_le hb h.size) hne).trans (h.block b hb hne)⟩
theorem growB_own {w w1 w2 : World} {r row : Option Nat} (h : w.grownBy w1 r) (k : w1.grownBy w2 row) (hr : ∀ q, row = some q → w.heap.size ≤ q) : w.grownBy w2 r :=
  ⟨k.os.trans h.os, k.tape.trans h.tape, k.output.trans h.output, Nat.le_trans h.size k.size, fun b hb hne => (k.block b (Nat.lt_of_lt_of_le hb h.size) (fun e => by have := hr b e.symm; omega)).trans (h.block b hb hne)⟩
theorem growB_box {w w1 : World} {r : Option Nat} (h : w.grownBy w1 r) (o : Obj) : w.grownBy (w1.alloc o) r :=
  ⟨h.os, h.tape, h.output, Nat.le_trans h.size (by simp), fun b hb hne => (Below.heap_alloc w1 o b (Nat.lt_of_lt_of_le hb h.size)).trans (h.block b hb hne)⟩
theorem own_grownG {w w' : World} {base size n g : Nat} {e : TypeId} {v : Value} {xs : List Value} (h : w.ownsRow base e size v n xs) (hg : w.grownBy w' (some g)) (hb : g < base) : w'.ownsRow base e size v n xs :=
  own_same h fun b hv => hg.block b (h.lt b hv).2 (fun e => by injection e with e; have := (h.lt b hv).1; omega)
theorem rdl_grown {α : Type} {R : World → Value → α → Prop} {w w' : World} {A : Option Addr} {n g : Nat} {xs : List α} (h : RdL R w A n xs) (hA : ∀ b o, A = some ⟨b, o, none⟩ → b ≠ g) (hR : ∀ v x, R w v x → R w' v x) (hg : w.grownBy w' (some g)) : RdL R w' A n xs :=
  ⟨h.1, h.2.1, fun k x hk => by
    obtain ⟨b, o, v, e, hc, hr⟩ := h.2.2 k x hk
    exact ⟨b, o, v, e, (World.cell?_of_block (hg.block b (cell_lt hc) (fun e2 => hA b o e (by injection e2)))).trans hc, hR v x hr⟩⟩
theorem own_len_leB {w : World} {base size n : Nat} {e : TypeId} {v : Value} {ys : List Value} (h : w.ownsRow base e size v n ys) : n ≤ maxLen := by
  rcases h.2 with ⟨_, h0⟩ | ⟨g, cap, cur, _, _, _, h1, h2, _⟩
  · omega
  · omega
theorem NumsP.grown {P : Int → Prop} {w w' : World} {g b n : Nat} (h : NumsP P w g b n) (hg : w.grownBy w' (some g)) : NumsP P w' g b n :=
  ⟨h.1, h.2.1, h.2.2.1, fun i hi => by
    obtain ⟨x, hx, hc⟩ := h.2.2.2 i hi
    exact ⟨x, hx, (World.cell?_of_block (hg.block b (cell_lt hc) (by simpa using h.1))).trans hc⟩⟩
theorem OwM.pushG {α : Type} {eo ei : TypeId} {f : α → Value} {lo g : Nat} {w w1 : World} {v : Value} {n : Nat} {xss : List (List α)} (hne : eo ≠ ei) (h : OwM eo ei f lo w v n xss) (hg0 : w.grownBy w1 (some g)) (hgl : g < lo) (hlo : lo ≤ w.heap.size) {u : Value} {xs : List α} (hu : w1.ownsRow w.heap.size ei 1 u xs.length (xs.map f)) :
    ∃ vs, w1.ownsRow lo eo 1 v n vs ∧ ∀ {w2 : World} {v' : Value}, w2.ownsRow lo eo 1 v' (n + 1) (vs ++ [u]) → w1.grownBy w2 v.ownBlock → OwM eo ei f lo w2 v' (n + 1) (xss ++ [xs]) := by
  obtain ⟨vs, h1, h2, h3, h4⟩ := h
  have hk1 := own_grownG h1 hg0 hgl
  refine ⟨vs, hk1, fun {w2 v'} hown hg => ⟨vs ++ [u], hown, by simp [h2], ?_, ?_⟩⟩
  · have far : ∀ {base : Nat} {y : Value} {ys : List α}, w1.ownsRow base ei 1 y ys.length (ys.map f) → w2.ownsRow base ei 1 y ys.length (ys.map f) := fun ho =>
      own_same ho fun b hb => hg.block b (ho.lt b hb).2 (fun e => own_ne ho hk1 hne.symm hb e.symm)
    intro k y ys hy hx
    by_cases hk : k < vs.length
    · rw [List.getElem?_append_left hk] at hy
      rw [List.getElem?_append_left (by omega)] at hx
      exact far (own_grownG (h3 k y ys hy hx) hg0 hgl)
    · have hk2 : k = vs.length := by
        have := (List.getElem?_eq_some_iff.1 hy).1
        simp at this
        omega
      subst hk2
      rw [List.getElem?_append_right (Nat.le_refl _)] at hy
      rw [h2, List.getElem?_append_right (Nat.le_refl _)] at hx
      simp at hy hx
      subst hy
      subst hx
      exact far (own_mono hu hlo)
  · rw [List.filterMap_append]
    cases hub : u.ownBlock with
    | none => simpa [hub] using h4
    | some g =>
      simp only [List.filterMap_cons, hub, List.filterMap_nil]
      rw [List.nodup_append]
      refine ⟨h4, by simp, fun a ha b hb' => ?_⟩
      simp at hb'
      subst hb'
      obtain ⟨y, hy, hyb⟩ := List.mem_filterMap.1 ha
      obtain ⟨k, hk⟩ := List.getElem?_of_mem hy
      have hkl : k < xss.length := by rw [← h2]; exact (List.getElem?_eq_some_iff.1 hk).1
      have h5 := ((h3 k y _ hk (List.getElem?_eq_getElem hkl)).lt a hyb).2
      have h6 := (hu.lt b hub).1
      omega
theorem toGr {w w' : World} {r : Option Nat} (h : Below w.heap.size w w') : w.grownBy w' r := ⟨h.os, h.tape, h.output, h.size, fun b hb _ => h.block b hb⟩
def Off (q : Nat) (A : Option Addr) : Prop := ∀ b o, A = some ⟨b, o, none⟩ → b ≠ q
def RG (q : Nat) (w : World) (v : Value) (xs : List Int) : Prop := ∃ A n c, v = .slice A n c ∧ RdL RI w A n xs ∧ Off q A
theorem stab_RG {q : Nat} : Stab (RG q) := fun _ _ _ _ hb ⟨A, n, c, e, h, hq⟩ => ⟨A, n, c, e, h.same stab_RI hb, hq⟩
theorem RdL.toRV {q : Nat} {w : World} {A : Option Addr} {n : Nat} {xss : List (List Int)} (h : RdL (RG q) w A n xss) : RdL (RV RI) w A n xss :=
  ⟨h.1, h.2.1, fun k x hk => by
    obtain ⟨b, o, v, e, hc, A', n', c', e', hr, -⟩ := h.2.2 k x hk
    exact ⟨b, o, v, e, hc, A', n', c', e', hr⟩⟩
theorem own_off {q : Nat} {w : World} {base : Nat} {e : TypeId} {size : Nat} {A : Option Addr} {n c : Nat} {xs : List Value} (h : w.ownsRow base e size (.slice A n c) n xs) (hq : q < base) : Off q A := by
  intro b o hA
  subst hA
  rcases h.2 with ⟨h0, h1⟩ | ⟨g, cap, cur, hv, hb, _, hnc, _⟩
  · injection h0 with h0; cases h0
  · injection hv with hA _ hc
    simp only [Option.some.injEq, Addr.mk.injEq, and_true] at hA
    omega
section
variable {lo g n : Nat} {w w1 : World} {v : Value} {F : List (List Int)}
theorem OwM.grownI (h : OwM 27 3 (.int .i64) lo w v n F) (hg : w.grownBy w1 (some g)) (hl : g < lo) : OwM 27 3 (.int .i64) lo w1 v n F := by
  obtain ⟨vs, h1, h2, h3, h4⟩ := h
  exact ⟨vs, own_grownG h1 hg hl, h2, fun k u xs hu hx => own_grownG (h3 k u xs hu hx) hg hl, h4⟩
theorem mat_litI {w : World} : OwM 27 3 (.int .i64) w.heap.size (w.alloc (.cells #[] 27)) (.slice (some ⟨w.heap.size, 0, none⟩) 0 0) 0 [] :=
  ⟨[], World.ownsRow_lit _ _ _ (Nat.le_refl _) (Nat.zero_le _) rfl, rfl, fun k u xs hu => by simp at hu, by simp⟩
theorem OwM.toRG (h : OwM 27 3 (.int .i64) lo w v n F) (hg : g < lo) (hF : ∀ p ∈ F, ∀ x ∈ p, -2000 ≤ x ∧ x ≤ 2000) : ∃ A c, v = .slice A n c ∧ n ≤ c ∧ Off g A ∧ RdL (RG g) w A n F := by
  obtain ⟨vs, h1, h2, h3, -⟩ := h
  have hl : vs.length = n := by have := h1.1; simpa using this
  obtain ⟨A, c, e, hr⟩ := RdL.ofOwn (R := RG g) (xs := F) (own_len_leB h1) h1 (by omega) fun k x hk => by
    have hkl := (List.getElem?_eq_some_iff.1 hk).1
    have hu : vs[k]? = some (vs[k]'(by omega)) := List.getElem?_eq_getElem (by omega)
    refine ⟨_, hu, ?_⟩
    have ho := h3 k _ x hu hk
    generalize vs[k]'(by omega) = u at ho
    obtain ⟨B, c, e⟩ := own_slice ho
    rw [e] at ho ⊢
    exact ⟨B, x.length, c, rfl, rd_of_own (R := RI) ho (RI_ints fun y hy => by have := hF x (List.mem_of_getElem? hk) y hy; omega), own_off ho hg⟩
  subst e
  exact ⟨A, c, rfl, sort_cap h1, own_off h1 hg, hr⟩
theorem RdL.grownG {w' : World} {A : Option Addr} (h : RdL (RG g) w A n F) (hA : Off g A) (hg : w.grownBy w' (some g)) : RdL (RG g) w' A n F :=
  rdl_grown h hA (fun _ _ ⟨A', n', c', e, hr, ho⟩ => ⟨A', n', c', e, rdl_grown hr ho (fun _ _ h => h) hg, ho⟩) hg
end
theorem ints_snocG (xs : List Int) (y : Int) : ints xs ++ [.int .i64 y] = ints (xs ++ [y]) := by simp [ints]
end Go.Proofs.Ytlncpabnlnipoaa
