
/- Plain law of MergeCatalogues: what a catalogue is, in one line; what one entry more makes of it; merging by the program and by the reference. -/
import Derived.Test.YtbpdbimdefdefaaAddP
namespace Go.Proofs.Ytbpdbimdefdefaa
open Go.RowKit

theorem lex_tr : ∀ {xs ys zs : List Int}, lexL xs ys < 0 → lexL ys zs < 0 → lexL xs zs < 0
  | [], [], _, h, _ => by simp [lexL] at h
  | [], _ :: _, [], _, h => by simp [lexL] at h
  | [], _ :: _, _ :: _, _, _ => by simp [lexL]
  | _ :: _, [], _, h, _ => by simp [lexL] at h
  | _ :: _, _ :: _, [], _, h => by simp [lexL] at h
  | x :: l, y :: m, z :: n, h1, h2 => by
    rw [lexL] at h1 h2 ⊢
    split at h1
    · rename_i e1
      have e1 := eq_of_beq e1
      subst e1
      split at h2
      · rename_i e2
        rw [if_pos e2]
        exact lex_tr h1 h2
      · rename_i e2
        rw [if_neg e2]
        split at h2
        · rename_i e3
          rw [if_pos e3]; omega
        · omega
    · rename_i e1
      split at h1
      · rename_i e3
        split at h2
        · rename_i e2
          have e2 := eq_of_beq e2
          subst e2
          rw [if_neg e1, if_pos e3]; omega
        · split at h2
          · rename_i e4
            have e5 : ¬ (x == z) = true := fun e => by have := eq_of_beq e; omega
            rw [if_neg e5, if_pos (by omega)]; omega
          · omega
      · omega
theorem lex_anti : ∀ (xs ys : List Int), lexL xs ys = - lexL ys xs
  | [], [] => by simp [lexL]
  | [], _ :: _ => by simp [lexL]
  | _ :: _, [] => by simp [lexL]
  | x :: l, y :: m => by
    rw [lexL, lexL]
    by_cases h : x = y
    · subst h
      simp
      exact lex_anti l m
    · have h1 : (x == y) = false := beq_eq_false_iff_ne.2 h
      have h2 : (y == x) = false := beq_eq_false_iff_ne.2 (fun e => h e.symm)
      rw [h1, h2]
      simp only [Bool.false_eq_true, if_false]
      by_cases h3 : x < y
      · rw [if_pos h3, if_neg (by omega)]
      · rw [if_neg h3, if_pos (by omega)]
        omega
theorem bef_iff {x y : AlgebraM} : befB x y = true ↔ x.1 < y.1 ∨ (x.1 = y.1 ∧ (lexL (tyL x.2) (tyL y.2) < 0 ∨ (tyL x.2 = tyL y.2 ∧ lexL (codeL x.2) (codeL y.2) < 0))) := by
  unfold befB
  by_cases h1 : x.1 = y.1
  · rw [if_pos (by simp [h1])]
    by_cases h2 : tyL x.2 = tyL y.2
    · have e : lexL (tyL x.2) (tyL y.2) = 0 := lexL_zero.2 h2
      rw [if_pos (by simp [e]), decide_eq_true_eq]
      constructor
      · intro h; exact .inr ⟨h1, .inr ⟨h2, h⟩⟩
      · rintro (h | ⟨-, h | ⟨-, h⟩⟩)
        · omega
        · omega
        · exact h
    · have e : ¬ lexL (tyL x.2) (tyL y.2) = 0 := fun e => h2 (lexL_zero.1 e)
      rw [if_neg (by simp [e]), decide_eq_true_eq]
      constructor
      · intro h; exact .inr ⟨h1, .inl h⟩
      · rintro (h | ⟨-, h | ⟨h, -⟩⟩)
        · omega
        · exact h
        · exact absurd h h2
  · rw [if_neg (by simp [h1]), decide_eq_true_eq]
    constructor
    · intro h; exact .inl h
    · rintro (h | ⟨h, -⟩)
      · exact h
      · exact absurd h h1
theorem bef_tr {x y z : AlgebraM} (h1 : befB x y = true) (h2 : befB y z = true) : befB x z = true := by
  rw [bef_iff] at *
  rcases h1 with h1 | ⟨e1, h1⟩
  · rcases h2 with h2 | ⟨e2, -⟩
    · exact .inl (by omega)
    · exact .inl (by omega)
  · rcases h2 with h2 | ⟨e2, h2⟩
    · exact .inl (by omega)
    · refine .inr ⟨by omega, ?_⟩
      rcases h1 with h1 | ⟨t1, h1⟩
      · rcases h2 with h2 | ⟨t2, -⟩
        · exact .inl (lex_tr h1 h2)
        · exact .inl (by rw [← t2]; exact h1)
      · rcases h2 with h2 | ⟨t2, h2⟩
        · exact .inl (by rw [t1]; exact h2)
        · exact .inr ⟨by rw [t1, t2], lex_tr h1 h2⟩
theorem bef_total {x y : AlgebraM} (hx : SmallP x) (hy : SmallP y) (h : befB x y = false) (hne : x ≠ y) : befB y x = true := by
  have h0 : ¬ cmpI x y = 0 := fun e => hne ((cmpI_zero hx hy).1 e)
  rw [befB_cmp] at h ⊢
  have h1 := of_decide_eq_false h
  refine decide_eq_true ?_
  unfold cmpI at *
  by_cases e1 : x.1 = y.1
  · rw [if_pos (by simp [e1])] at h0 h1
    rw [if_pos (by simp [e1]), lex_anti (tyL y.2), lex_anti (codeL y.2)]
    by_cases e2 : lexL (tyL x.2) (tyL y.2) = 0
    · rw [if_pos (by simp [e2])] at h0 h1
      rw [if_pos (by simp [e2])]
      omega
    · rw [if_neg (by simp [e2])] at h0 h1
      rw [if_neg (by simp [e2])]
      omega
  · rw [if_neg (by simp [e1])] at h0 h1
    rw [if_neg (by simp; omega)]
    omega

/-! ## A catalogue in one line -/
def Fine (e : EntryM) : Prop := nameB e.1 = true ∧ SmallP e.2 ∧ canA e.2 = e.2
def PwB (xs : List EntryM) : Prop := xs.Pairwise fun a b => befB a.2 b.2 = true
theorem catF_iff : ∀ {xs pre : List EntryM}, catF pre xs = true ↔ (∀ e ∈ xs, Fine e) ∧ (∀ e ∈ xs, e.1 ∉ pre.map (·.1)) ∧ (xs.map (·.1)).Nodup ∧ PwB xs ∧ ∀ p, pre.getLast? = some p → ∀ e ∈ xs, befB p.2 e.2 = true
  | [], pre => by simp [catF, PwB]
  | e :: l, pre => by
    have ok : okE pre e = true ↔ Fine e ∧ e.1 ∉ pre.map (·.1) ∧ ∀ p, pre.getLast? = some p → befB p.2 e.2 = true := by
      unfold okE Fine lastB
      simp only [Bool.and_eq_true, Bool.not_eq_true']
      have hs : hasS e.1 (pre.map (·.1)) = false ↔ e.1 ∉ pre.map (·.1) := by
        rw [← Bool.not_eq_true, hasS_iff]
      rw [hs, small_iff, eqC_iff]
      cases hp : pre.getLast? with
      | none => simp; grind
      | some p => simp; grind
    rw [catF, Bool.and_eq_true, ok, catF_iff]
    unfold PwB
    simp only [List.map_append, List.mem_append, List.map_cons, List.map_nil, List.getLast?_append, List.getLast?_singleton, Option.some_or, Option.some.injEq, List.mem_cons, List.nodup_cons, List.pairwise_cons, forall_eq', forall_eq_or_imp]
    constructor
    · rintro ⟨⟨f1, f2, f3⟩, g1, g2, g3, g4, g5⟩
      refine ⟨⟨f1, g1⟩, ⟨f2, fun a ha => fun h => g2 a ha (.inl h)⟩, ⟨fun h => ?_, g3⟩, ⟨g5, g4⟩, fun p hp => ⟨f3 p hp, fun a ha => bef_tr (f3 p hp) (g5 a ha)⟩⟩
      obtain ⟨a, ha, e1⟩ := List.mem_map.1 h
      exact g2 a ha (.inr (.inl e1))
    · rintro ⟨⟨f1, g1⟩, ⟨f2, g2⟩, ⟨h1, g3⟩, ⟨g5, g4⟩, g6⟩
      refine ⟨⟨f1, f2, fun p hp => (g6 p hp).1⟩, g1, fun a ha h => ?_, g3, g4, g5⟩
      rcases h with h | h
      · exact g2 a ha h
      · rcases h with h | h
        · exact h1 (List.mem_map.2 ⟨a, ha, h⟩)
        · simp at h
theorem cat_iff {xs : List EntryM} : catB xs = true ↔ xs.length ≤ 12 ∧ (∀ e ∈ xs, Fine e) ∧ (xs.map (·.1)).Nodup ∧ PwB xs := by
  unfold catB
  rw [Bool.and_eq_true, decide_eq_true_eq, catF_iff]
  simp
theorem pos_take {y : AlgebraM} : ∀ {xs : List EntryM}, ∀ x ∈ xs.take (posL y xs), befB x.2 y = true
  | [], x, hx => by simp at hx
  | z :: l, x, hx => by
    rw [posL] at hx
    split at hx
    · rename_i h
      rw [List.take_succ_cons, List.mem_cons] at hx
      rcases hx with rfl | hx
      · exact h
      · exact pos_take x hx
    · simp at hx
theorem pos_drop {y : AlgebraM} : ∀ {xs : List EntryM} {x : EntryM} {l : List EntryM}, xs.drop (posL y xs) = x :: l → befB x.2 y = false
  | [], x, l, h => by simp at h
  | z :: m, x, l, h => by
    rw [posL] at h
    split at h
    · rw [List.drop_succ_cons] at h
      exact pos_drop h
    · rename_i h1
      rw [List.drop_zero] at h
      injection h with h2 _
      subst h2
      simpa using h1
theorem insM_perm (xs : List EntryM) (e : EntryM) : (insM xs e).Perm (e :: xs) := by
  unfold insM
  have h : xs.take (posL e.2 xs) ++ e :: xs.drop (posL e.2 xs) = xs.take (posL e.2 xs) ++ ([e] ++ xs.drop (posL e.2 xs)) := rfl
  rw [h]
  refine (List.perm_append_comm_assoc ..).trans ?_
  rw [List.take_append_drop]
  exact List.Perm.refl _
theorem ins_pw {xs : List EntryM} {e : EntryM} (h : PwB xs) (hs : ∀ x ∈ xs, SmallP x.2) (he : SmallP e.2) (hn : ∀ x ∈ xs, x.2 ≠ e.2) : PwB (insM xs e) := by
  unfold PwB insM at *
  have h0 := h
  rw [← List.take_append_drop (posL e.2 xs) xs, List.pairwise_append] at h0
  rw [List.pairwise_append, List.pairwise_cons]
  have hd : ∀ b ∈ xs.drop (posL e.2 xs), befB e.2 b.2 = true := by
    cases hq : xs.drop (posL e.2 xs) with
    | nil => intro b hb; simp at hb
    | cons x l =>
      have hx : x ∈ xs := List.mem_of_mem_drop (by rw [hq]; exact List.mem_cons_self ..)
      have h1 := bef_total (hs x hx) he (pos_drop hq) (hn x hx)
      have h2 := h0.2.1
      rw [hq, List.pairwise_cons] at h2
      intro b hb
      rcases List.mem_cons.1 hb with rfl | hb
      · exact h1
      · exact bef_tr h1 (h2.1 b hb)
  refine ⟨h0.1, ⟨hd, h0.2.1⟩, fun a ha b hb => ?_⟩
  rcases List.mem_cons.1 hb with rfl | hb
  · exact pos_take a ha
  · exact h0.2.2 a ha b hb
theorem ins_cat {xs : List EntryM} {e : EntryM} (h : catB xs = true) (he : Fine e) (hn : ∀ x ∈ xs, x.2 ≠ e.2) (hm : e.1 ∉ xs.map (·.1)) (hl : xs.length + 1 ≤ 12) : catB (insM xs e) = true := by
  obtain ⟨-, h2, h3, h4⟩ := cat_iff.1 h
  refine cat_iff.2 ⟨by rw [insM_len]; exact hl, fun x hx => ?_, ?_, ins_pw h4 (fun x hx => (h2 x hx).2.1) he.2.1 hn⟩
  · rcases insM_mem.1 hx with rfl | hx
    · exact he
    · exact h2 x hx
  · rw [((insM_perm xs e).map _).nodup_iff, List.map_cons, List.nodup_cons]
    exact ⟨hm, h3⟩
theorem dup_mem {xs : List EntryM} {e : EntryM} (h : dupB xs e = true) : ∃ x ∈ xs, x.2 = e.2 := by
  unfold dupB at h
  cases hx : xs[posL e.2 xs]? with
  | none => rw [hx] at h; cases h
  | some x => rw [hx] at h; exact ⟨x, List.mem_of_getElem? hx, eqC_iff.1 h⟩
theorem mem_dup {e : EntryM} (he : SmallP e.2) : ∀ {xs : List EntryM}, PwB xs → (∃ x ∈ xs, x.2 = e.2) → dupB xs e = true
  | [], _, h => by obtain ⟨x, hx, -⟩ := h; simp at hx
  | z :: l, hp, h => by
    unfold PwB at hp
    rw [List.pairwise_cons] at hp
    by_cases hz : z.2 = e.2
    · have hb := befB_self hz (by rw [hz]; exact he)
      unfold dupB
      rw [posL, if_neg (by rw [hb]; decide)]
      show eqC z.2 e.2 = true
      exact eqC_iff.2 hz
    · obtain ⟨x, hx, hxe⟩ := h
      have hxl : x ∈ l := by
        rcases List.mem_cons.1 hx with rfl | hx
        · exact absurd hxe hz
        · exact hx
      have hb : befB z.2 e.2 = true := by rw [← hxe]; exact hp.1 x hxl
      have ih := mem_dup he hp.2 ⟨x, hxl, hxe⟩
      unfold dupB at ih ⊢
      rw [posL, if_pos hb, List.getElem?_cons_succ]
      exact ih

/-! ## Merging -/
noncomputable def hasM (X : List EntryM) (m : AlgebraM) : Bool := X.any fun x => eqC x.2 m
theorem hasM_iff {X : List EntryM} {m : AlgebraM} : hasM X m = true ↔ ∃ x ∈ X, x.2 = m := by
  unfold hasM
  rw [List.any_eq_true]
  constructor
  · rintro ⟨x, hx, h⟩; exact ⟨x, hx, eqC_iff.1 h⟩
  · rintro ⟨x, hx, h⟩; exact ⟨x, hx, eqC_iff.2 h⟩
noncomputable def mgS (X : List EntryM) : List EntryM → List EntryM → List EntryM × Bool
  | [], out => (out, true)
  | y :: l, out => if hasM X y.2 then mgS X l out else if catB (insM out y) then mgS X l (insM out y) else ([], false)
noncomputable def wiM (xs : List EntryM) (e : EntryM) : List EntryM := if dupB xs e then xs else insM xs e
noncomputable def mgI : List EntryM → List EntryM → List EntryM
  | [], L => L
  | y :: l, L => mgI l (wiM L y)
def Bad (L : List EntryM) : Prop := 12 < L.length ∨ ¬ (L.map (·.1)).Nodup
theorem Bad.no {L : List EntryM} (h : Bad L) : catB L = false := by
  cases hc : catB L with
  | false => rfl
  | true =>
    obtain ⟨h1, -, h3, -⟩ := cat_iff.1 hc
    rcases h with h | h
    · omega
    · exact absurd h3 h
theorem Bad.wi {L : List EntryM} (h : Bad L) (e : EntryM) : Bad (wiM L e) := by
  unfold wiM
  split
  · exact h
  · rcases h with h | h
    · exact .inl (by rw [insM_len]; omega)
    · refine .inr fun hn => h ?_
      rw [((insM_perm L e).map _).nodup_iff, List.map_cons, List.nodup_cons] at hn
      exact hn.2
theorem Bad.mg : ∀ {l L : List EntryM}, Bad L → Bad (mgI l L)
  | [], _, h => h
  | y :: l, L, h => by rw [mgI]; exact Bad.mg (h.wi y)
theorem mg_eq {X : List EntryM} : ∀ {l out : List EntryM}, catB out = true → (∀ e ∈ l, Fine e) → PwB l → (∀ e ∈ l, (∃ o ∈ out, o.2 = e.2) ↔ hasM X e.2 = true) → mgS X l out = if catB (mgI l out) then (mgI l out, true) else ([], false)
  | [], out, h, _, _, _ => by rw [mgS, mgI, if_pos h]
  | e :: l, out, h, hf, hp, hm => by
    have hfe := hf e (List.mem_cons_self ..)
    have hp' := hp
    unfold PwB at hp'
    rw [List.pairwise_cons] at hp'
    obtain ⟨-, c2, c3, c4⟩ := cat_iff.1 h
    rw [mgS, mgI, wiM]
    cases hh : hasM X e.2 with
    | true =>
      have hd := mem_dup hfe.2.1 c4 ((hm e (List.mem_cons_self ..)).2 hh)
      rw [if_pos rfl, if_pos hd]
      exact mg_eq h (fun a ha => hf a (List.mem_cons_of_mem _ ha)) hp'.2 fun a ha => hm a (List.mem_cons_of_mem _ ha)
    | false =>
      have hn : ¬ ∃ o ∈ out, o.2 = e.2 := fun hx => by rw [hm e (List.mem_cons_self ..), hh] at hx; cases hx
      have hd : ¬ dupB out e = true := fun hd => hn (dup_mem hd)
      rw [if_neg (by decide), if_neg hd]
      cases hc : catB (insM out e) with
      | true =>
        rw [if_pos rfl]
        refine mg_eq hc (fun a ha => hf a (List.mem_cons_of_mem _ ha)) hp'.2 fun a ha => ?_
        rw [← hm a (List.mem_cons_of_mem _ ha)]
        constructor
        · rintro ⟨o, ho, e1⟩
          rcases insM_mem.1 ho with rfl | ho
          · have := hp'.1 a ha
            rw [befB_self e1 hfe.2.1] at this
            cases this
          · exact ⟨o, ho, e1⟩
        · rintro ⟨o, ho, e1⟩
          exact ⟨o, insM_mem.2 (.inr ho), e1⟩
      | false =>
        have hb : Bad (insM out e) := by
          rcases Nat.lt_or_ge 12 (insM out e).length with h1 | h1
          · exact .inl h1
          · refine .inr fun hnd => ?_
            rw [((insM_perm out e).map _).nodup_iff, List.map_cons, List.nodup_cons] at hnd
            rw [insM_len] at h1
            have := ins_cat h hfe (fun x hx e1 => hn ⟨x, hx, e1⟩) hnd.1 h1
            rw [hc] at this
            cases this
        rw [if_neg (by decide), (Bad.mg hb).no, if_neg (by decide)]
noncomputable def mgP (xs ys : List EntryM) : List EntryM × Bool := if catB xs && (catB ys && catB (mgI ys xs)) then (mgI ys xs, true) else ([], false)
theorem mg_no1 {xs ys : List EntryM} (h : catB xs = false) : mgP xs ys = ([], false) := by unfold mgP; rw [h]; rfl
theorem mg_no2 {xs ys : List EntryM} (h : catB ys = false) : mgP xs ys = ([], false) := by unfold mgP; rw [h, Bool.false_and, Bool.and_false]; rfl
theorem mg_no3 {xs ys : List EntryM} (h : catB (mgI ys xs) = false) : mgP xs ys = ([], false) := by unfold mgP; rw [h, Bool.and_false, Bool.and_false]; rfl
theorem mg_yes {xs ys : List EntryM} (h1 : catB xs = true) (h2 : catB ys = true) (h3 : catB (mgI ys xs) = true) : mgP xs ys = (mgI ys xs, true) := by unfold mgP; rw [h1, h2, h3]; rfl
theorem mg_spec {xs ys : List EntryM} (h1 : catB xs = true) (h2 : catB ys = true) : mgS xs ys xs = mgP xs ys := by
  obtain ⟨-, c2, -, c4⟩ := cat_iff.1 h2
  rw [mg_eq h1 c2 c4 fun e he => hasM_iff.symm]
  unfold mgP
  rw [h1, h2]
  rfl
theorem mgP_cnt {xs ys : List EntryM} : (Sh.rows shEntry 64).cnt (mgP xs ys).1 ≤ 1048576 := by
  unfold mgP
  split
  · rename_i h
    simp only [Bool.and_eq_true] at h
    exact cat_cnt h.2.2
  · show 0 + 0 ≤ _
    omega
end Go.Proofs.Ytbpdbimdefdefaa
