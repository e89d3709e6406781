
/- Sets of strings as maps of the call's own: map[string]bool whose keys are a list's members. -/
import Derived.Test.YtbpdbimdefdefaaShape
import Derived.Maps.Own
import Derived.Maps.OwnSet
import Derived.Maps.Views
namespace Go.Proofs.Ytbpdbimdefdefaa
open Go.RowKit
open Go.WideMaps (keyOf_string_mk)
open Go.Maps (Keyed string_keyed setOf setOf_snoc tidy_setOf atKey_put_same atKey_put_other)

theorem keyedS : Keyed Try.prog 9 := string_keyed Try.underlying9
def klS (s : ByteArray) : Lit := .string s.data.toList
theorem klS_inj {s t : ByteArray} (h : klS s = klS t) : s = t := by
  injection h with h
  exact bs_inj h
theorem zeroB (w : World) : (zeroValue 4).run Try.prog w = .ok (.bool false) w := by kernel_rfl
def setS (ks : List ByteArray) : DataW Unit := setOf (.lit (.bool true)) (ks.map klS)
noncomputable def hasS (s : ByteArray) (ks : List ByteArray) : Bool := ks.any fun t => eqC t s
theorem hasS_iff {s : ByteArray} {ks : List ByteArray} : hasS s ks = true ↔ s ∈ ks := by
  unfold hasS
  rw [List.any_eq_true]
  exact ⟨fun ⟨c, h, e⟩ => by rw [← eqC_iff.1 e]; exact h, fun h => ⟨s, h, eqC_self s⟩⟩
theorem hasS_snoc (s t : ByteArray) (ks : List ByteArray) : hasS s (ks ++ [t]) = (hasS s ks || eqC t s) := by simp [hasS]
theorem keyLits (ks : List ByteArray) : ∀ x ∈ ks.map klS, WideAt.IsKeyLit x := by
  intro x hx
  obtain ⟨s, -, rfl⟩ := List.mem_map.1 hx
  trivial
theorem setS_snoc (ks : List ByteArray) (s : ByteArray) : setS (ks ++ [s]) = (setS ks).put (klS s) (.lit (.bool true)) := by
  unfold setS
  rw [List.map_append, List.map_cons, List.map_nil, setOf_snoc]
theorem atKey_setS (s : ByteArray) (ks : List ByteArray) : (setS ks).atKey (klS s) (.lit (.bool false)) = .lit (.bool (hasS s ks)) := by
  have key : ∀ k, k ≤ ks.length → (setS (ks.take k)).atKey (klS s) (.lit (.bool false)) = .lit (.bool (hasS s (ks.take k))) := by
    intro k
    induction k with
    | zero => intro _; rfl
    | succ k ih =>
      intro hk
      rw [List.take_succ_eq_append_getElem (by omega), setS_snoc, hasS_snoc]
      by_cases e : s = ks[k]
      · rw [← e, atKey_put_same (D := setS (ks.take k)) (k := klS s) (tidy_setOf _ _ (keyLits _)).isMap (show WideAt.IsKeyLit (klS s) from trivial), eqC_self, Bool.or_true]
      · rw [atKey_put_other fun h => e (klS_inj h), ih (by omega), eqC_no.2 fun h => e h.symm, Bool.or_false]
  have := key ks.length (Nat.le_refl _)
  rwa [List.take_length] at this
/-- Block b is a map whose keys are the list's members, all true. -/
def MapS (w : World) (b : Nat) (ks : List ByteArray) : Prop := w.ownsMap Try.prog 9 (plainElem (H := Unit) Try.prog 4) b ks.length (setS ks)
theorem MapS.made (w : World) : MapS (w.alloc (.map #[] 0)) w.heap.size [] := World.ownsMap_made _ _ _ _
theorem MapS.lt {w : World} {b : Nat} {ks : List ByteArray} (h : MapS w b ks) : b < w.heap.size := World.ownsMap.lt h
theorem MapS.kept {w w' : World} {b : Nat} {ks : List ByteArray} (h : MapS w b ks) (hb : w'.heap[b]? = w.heap[b]?) : MapS w' b ks := by
  obtain ⟨es, clock, h1, h2⟩ := h
  exact ⟨es, clock, hb.trans h1, h2⟩
theorem MapS.next {w w' : World} {b : Nat} {ks : List ByteArray} (h : MapS w b ks) (hb : Below w.heap.size w w') : MapS w' b ks := h.kept (hb.block b h.lt)
theorem MapS.drew {w : World} {b : Nat} {ks : List ByteArray} (h : MapS w b ks) : MapS w.drew b ks := h
set_option maxRecDepth 100000 in
theorem plainBool_inv {v : Value} {x : Bool} {ps : List MemPlace} (h : plainElem (H := Unit) Try.prog 4 v = some (.lit (.bool x), ps)) : v = .bool x := by
  unfold plainElem at h
  rw [Try.underlying4] at h
  cases v <;> simp at h
  rw [h.1]
theorem MapS.look {w : World} {b : Nat} {ks : List ByteArray} (h : MapS w b ks) {s : ByteArray} (hs : s.size ≤ maxLen) : (Instr.lookup 99 (.map (some b)) (.string s) false).run Try.prog w = .ok (.bool (hasS s ks)) w := by
  obtain ⟨v, ps, hrun, hv⟩ := World.ownsMap.lookup h keyedS Try.underlying99 (zeroB w) (plainElem_bool Try.underlying4 false) (keyOf_string_mk Try.underlying9 hs)
  have e : (setS ks).atKey (.string s.data.toList) (.lit (.bool false)) = .lit (.bool (hasS s ks)) := atKey_setS s ks
  rw [e] at hv
  rw [hrun, plainBool_inv hv]
theorem MapS.put {w : World} {b : Nat} {ks : List ByteArray} (h : MapS w b ks) {s : ByteArray} (hs : s.size ≤ maxLen) (hn : ks.length < maxLen) :
    ∃ w', (Instr.mapUpdate 99 (.map (some b)) (.string s) (.bool true)).run Try.prog w = .ok () w' ∧ MapS w' b (ks ++ [s]) ∧ w.grownBy w' (some b) := by
  obtain ⟨w', hrun, h1, h2⟩ := World.ownsMap.update h keyedS Try.underlying99 hn (keyOf_string_mk Try.underlying9 hs) (plainElem_bool Try.underlying4 true)
  refine ⟨w', hrun, ?_, h2⟩
  unfold MapS
  rw [setS_snoc, List.length_append]
  exact h1
theorem MapS.len {w : World} {b : Nat} {ks : List ByteArray} (h : MapS w b ks) (ty : TypeId) : (Builtin.len_ #[99] ty #[.map (some b)]).run Try.prog w = .ok (.int .i64 (Go.Maps.size (setS ks))) w :=
  World.ownsMap.len h Try.underlying99 ty
theorem size_snoc (ks : List ByteArray) (s : ByteArray) : Go.Maps.size (setS (ks ++ [s])) = if hasS s ks then Go.Maps.size (setS ks) else Go.Maps.size (setS ks) + 1 := by
  rw [setS_snoc, Go.Maps.size_put (D := setS ks) (tidy_setOf _ _ (keyLits _))]
  have e : Go.Maps.has (setS ks) (klS s) = hasS s ks := by
    unfold setS
    rw [Go.Maps.has_setOf _ _ _ (keyLits _), List.any_map]
    unfold hasS
    congr 1
    funext t
    by_cases h : t = s
    · subst h
      rw [eqC_self]
      exact WideAt.sameKey_self (show WideAt.IsKeyLit (klS t) from trivial)
    · rw [eqC_no.2 h]
      exact Go.Maps.sameKey_ne fun e => h (klS_inj e)
  rw [e]
end Go.Proofs.Ytbpdbimdefdefaa
