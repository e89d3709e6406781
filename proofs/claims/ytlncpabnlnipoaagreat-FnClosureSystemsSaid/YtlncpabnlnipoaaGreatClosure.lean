
/- Walks of ClosureOf, in the program and in the reference. -/
import Derived.Test.YtlncpabnlnipoaaGreatMark
import Derived.Test.YtlncpabnlnipoaaGreatLawIsClosureSystem
namespace Go.Proofs.YtlncpabnlnipoaaGreat
open Go.RowKit

/-- The first closed set that has all of a set. -/
def closeL (set : List Int) : List (List Int) → List Int
  | [] => []
  | s :: l => if partL s set then s else closeL set l
theorem closeL_bounds {set : List Int} : ∀ {l : List (List Int)}, (∀ xs ∈ l, ∀ x ∈ xs, -9223372036854775808 ≤ x ∧ x ≤ 9223372036854775807) → ∀ x ∈ closeL set l, -9223372036854775808 ≤ x ∧ x ≤ 9223372036854775807
  | [], _, x, hx => by simp [closeL] at hx
  | s :: l, h, x, hx => by
    rw [closeL] at hx
    split at hx
    · exact h s (List.mem_cons_self ..) x hx
    · exact closeL_bounds (fun xs hxs => h xs (List.mem_cons_of_mem _ hxs)) x hx

/-- The call hands back an int slice that reads so. -/
def RdR (w : World) (xs : List Int) (e : Ending) (w' : World) : Prop := ∃ A n c, e = .returned (.slice A n c) ∧ RdL RI w' A n xs ∧ Below w.heap.size w w'
/-- The call hands back an int slice of its own. -/
def OwnR (w : World) (xs : List Int) (e : Ending) (w' : World) : Prop := ∃ A n c, e = .returned (.slice A n c) ∧ w'.ownsRow w.heap.size 3 1 (.slice A n c) n (ints xs) ∧ Below w.heap.size w w'
set_option maxHeartbeats 400000 in
theorem l1Own_any (A : Option Addr) (n c : Nat) (xs : List Int) (w : World) (h : RdL RI w A n xs) (hn : n ≤ 1048576) :
    Calls Tryz.prog 32 #[.slice A n c] w fun e w' => ∃ A' c', e = .returned (.slice A' n c') ∧ w'.ownsRow w.heap.size 3 1 (.slice A' n c') n (ints xs) ∧ Below w.heap.size w w' := by
  have hT := below_box w (.cells #[] 3)
  have hown : (w.alloc (.cells #[] 3)).ownsRow w.heap.size 3 1 (.slice (some ⟨w.heap.size, 0, none⟩) 0 0) 0 [] := World.ownsRow_lit _ _ _ (Nat.le_refl _) (Nat.zero_le _) rfl
  have h1 := h.next stab_RI hT
  go_enter Tryz.func32, Tryz.ntmps32
  go_wp2_with (at_builtin; refine appAny _ rfl _ _ 25 3 rfl (.int .i64 0) 8 Tryz.underlying25 info_int rfl (by decide) w.heap.size 0 0 (some ⟨w.heap.size, 0, none⟩) [] rfl hown A n c xs (.int .i64) (fun _ => rfl) rfl h1 (fun _ _ _ hr => hr.1) (by omega) hT.size ?_; intro A2 c2 w2 hown2 hg2 hb2)
  go_ret
  refine ⟨A2, c2, by simp, ?_, hT.trans hb2⟩
  simpa [ints] using hown2

theorem closeL_len {set : List Int} : ∀ {l : List (List Int)}, (∀ xs ∈ l, xs.length ≤ 1048576) → (closeL set l).length ≤ 1048576
  | [], _ => by simp [closeL]
  | s :: l, h => by
    rw [closeL]
    split
    · exact h s (List.mem_cons_self ..)
    · exact closeL_len fun xs hxs => h xs (List.mem_cons_of_mem _ hxs)
set_option maxHeartbeats 400000 in
theorem l30Close_any (A B : Option Addr) (n m c d : Nat) (xss : List (List Int)) (set : List Int) (w : World) (h : RdL (RV RI) w A n xss) (h' : RdL RI w B m set) :
    Calls Tryz.prog 33 #[.slice A n c, .slice B m d] w (RdR w (closeL set xss)) := by
  have hle := h.le
  go_enter Tryz.func33, Tryz.ntmps33
  go_wp2
  go_loop [5] (fun i => ∃ k : Nat, k ≤ n ∧ i = .int .i64 k ∧ At (closeL set) xss k) (fun i => n - (intOf i).toNat)
  case atStart => exact ⟨0, Nat.zero_le _, rfl, rfl⟩
  case round =>
    obtain ⟨k, hk, rfl, H⟩ := hrel
    by_cases hlt : k < n
    · obtain ⟨b, o, v, s, rfl, hc, ⟨P, j, g, rfl, hs⟩, hd, -⟩ := h.at hlt
      have H1 := Lib.hid hd
      clear hd
      go_wp2_with (go_at_call 43; refine (l5Within_any _ _ _ _ _ _ _ _ _ h' hs).mono ?_; rintro e w' ⟨rfl, rfl⟩)
      · have hin : partL s set = true := (by first | assumption | exact bt2 (by assumption) | exact net (by assumption) | exact netc (by assumption) | exact eqc (by assumption))
        have HR := Lib.hid (H.stop H1.out (r := s) (by rw [closeL, if_pos hin]))
        go_ret
        exact ⟨P, j, g, rfl, by rw [← HR.out]; exact hs, Below.refl _ _⟩
      · have hin : ¬ partL s set = true := by rw [show partL s set = false from (by first | assumption | exact bf1 (by assumption) | exact bf2 (by assumption) | exact nef (by assumption) | exact nefc (by assumption) | exact eqc (by assumption))]; decide
        go_round
        case rel => exact ⟨k + 1, by omega, by go_num, H.step H1.out (by rw [closeL, if_neg hin])⟩
        case measure => simp [intOf]; omega
    · have HR := Lib.hid (H.done (h.drop_end hlt) (r := []) rfl)
      go_wp2
      go_ret
      exact ⟨_, 0, 0, rfl, by rw [← HR.out]; exact RdL.nil _ _ _, below_box _ _⟩

set_option maxHeartbeats 400000 in
theorem closureIn_any (A B : Option Addr) (n m c d : Nat) (xss : List (List Int)) (set : List Int) (w : World) (h : RdL (RV RI) w A n xss) (h' : RdL RI w B m set) (hn : ∀ xs ∈ xss, xs.length ≤ 1048576) :
    Calls Tryz.prog 29 #[.slice A n c, .slice B m d] w (OwnR w (closeL set xss)) := by
  have hle := h.le
  have HN := Lib.hid hn
  clear hn
  go_enter Tryz.func29, Tryz.ntmps29
  go_wp2
  go_loop [9] (fun i => ∃ k : Nat, k ≤ n ∧ i = .int .i64 k ∧ At (closeL set) xss k) (fun i => n - (intOf i).toNat)
  case atStart => exact ⟨0, Nat.zero_le _, rfl, rfl⟩
  case round =>
    obtain ⟨k, hk, rfl, H⟩ := hrel
    by_cases hlt : k < n
    · obtain ⟨b, o, v, s, rfl, hc, ⟨P, j, g, rfl, hs⟩, hd, hx⟩ := h.at hlt
      have H1 := Lib.hid hd
      have hj : j ≤ 1048576 := by rw [← hs.len]; exact HN.out s (List.mem_of_getElem? hx)
      clear hd hx
      go_wp2_with (first | (go_at_call 39; refine (isPart_any _ _ _ _ _ _ _ _ _ h' hs).mono ?_; rintro e w' ⟨rfl, rfl⟩) | (go_at_call 41; refine (clone_any _ _ _ _ _ hs hj).mono ?_; rintro e w1 ⟨A1, c1, rfl, how, hb1⟩))
      · have hin : partL s set = true := (by first | assumption | exact bt2 (by assumption) | exact net (by assumption) | exact netc (by assumption) | exact eqc (by assumption))
        have HR := Lib.hid (H.stop H1.out (r := s) (by rw [closeL, if_pos hin]))
        go_ret
        exact ⟨A1, j, c1, rfl, by rw [← HR.out]; exact how, hb1⟩
      · have hin : ¬ partL s set = true := by rw [show partL s set = false from (by first | assumption | exact bf1 (by assumption) | exact bf2 (by assumption) | exact nef (by assumption) | exact nefc (by assumption) | exact eqc (by assumption))]; decide
        go_round
        case rel => exact ⟨k + 1, by omega, by go_num, H.step H1.out (by rw [closeL, if_neg hin])⟩
        case measure => simp [intOf]; omega
    · have HR := Lib.hid (H.done (h.drop_end hlt) (r := []) rfl)
      go_wp2
      go_ret
      exact ⟨none, 0, 0, rfl, by rw [← HR.out]; exact World.ownsRow_nil _ _ _ _, Below.refl _ _⟩

set_option maxHeartbeats 400000 in
theorem l30GoodAll_any (A : Option Addr) (m c : Nat) (xss : List (List Int)) (n : Int) (w : World) (h : RdL (RV RI) w A m xss) :
    Calls Tryz.prog 30 #[.int .i64 n, .slice A m c] w (Bl w (.bool (sysRes n xss))) := by
  rcases h1 : inB n 0 6 with _ | _
  · have H1 := Lib.hid h1
    go_enter Tryz.func30, Tryz.ntmps30
    go_wp2_with (go_at_call 36; refine (l30Size_any _ _).mono ?_; rintro e w' ⟨rfl, rfl⟩)
    go_ret
    exact ⟨ret_bool (by unfold sysRes; rw [H1.out]; rfl), Below.refl _ _⟩
  · have hb : 0 ≤ n ∧ n ≤ 6 := by unfold inB at h1; simpa using h1
    obtain ⟨k, rfl⟩ := Int.eq_ofNat_of_zero_le hb.1
    have e : sysRes k xss = sysB k xss := by unfold sysRes; rw [h1]; rfl
    rw [e]
    exact l30Good_any _ _ _ _ _ _ h (by omega)
set_option maxHeartbeats 400000 in
theorem hasSystem_any (A : Option Addr) (m c : Nat) (xss : List (List Int)) (n : Int) (w : World) (h : RdL (RV RI) w A m xss) (hm : m ≤ c) (hm2 : ∀ xs ∈ xss, xs.length ≤ 1048576) :
    Calls Tryz.prog 27 #[.int .i64 n, .slice A m c] w (Bl w (.bool (sysRes n xss))) := by
  rcases h1 : inB n 0 6 with _ | _
  all_goals
    have H1 := Lib.hid h1
    go_enter Tryz.func27, Tryz.ntmps27
    go_wp2_with (first | (go_at_call 34; refine (isSystemSize_any _ _).mono ?_; rintro e w' ⟨rfl, rfl⟩) | (go_at_call 35; refine (isSystem_any _ _ _ _ _ _ h hm hm2).mono ?_; rintro e w1 ⟨rfl, hb1⟩))
    go_ret
    exact ⟨ret_bool (by unfold sysRes; rw [H1.out]; rfl), by first | exact Below.refl _ _ | exact hb1⟩

def closeOk (n : Int) (xss : List (List Int)) (set : List Int) : Bool := sysRes n xss && setB n set
def closeRes (n : Int) (xss : List (List Int)) (set : List Int) : List Int := if closeOk n xss set then closeL set xss else []
/-- The call hands back an int slice of its own and a bool. -/
def OwnB (w : World) (xs : List Int) (b : Bool) (e : Ending) (w' : World) : Prop := ∃ A n c, e = .returned (.tuple #[.slice A n c, .bool b]) ∧ w'.ownsRow w.heap.size 3 1 (.slice A n c) n (ints xs) ∧ Below w.heap.size w w'
theorem own_lit0 {w w1 : World} (h : Below w.heap.size w w1) : (w1.alloc (.cells #[] 3)).ownsRow w.heap.size 3 1 (.slice (some ⟨w1.heap.size, 0, none⟩) 0 0) 0 (ints []) := World.ownsRow_lit _ _ _ h.size (Nat.zero_le _) rfl
theorem sysRes_range {n : Int} {xss : List (List Int)} (h : sysRes n xss = true) : 0 ≤ n ∧ n ≤ 6 := by
  unfold sysRes inB at h
  simp at h
  exact h.1

set_option maxHeartbeats 1000000 in
theorem implClosureOf_any (A B : Option Addr) (m c j d : Nat) (xss : List (List Int)) (set : List Int) (n : Int) (w : World) (h : RdL (RV RI) w A m xss) (hm : m ≤ c) (hm2 : ∀ xs ∈ xss, xs.length ≤ 1048576) (h' : RdL RI w B j set) :
    Calls Tryz.prog 6 #[.int .i64 n, .slice A m c, .slice B j d] w (OwnB w (closeRes n xss set) (closeOk n xss set)) := by
  rcases h1 : sysRes n xss with _ | _
  · have HR : Hid (closeOk n xss set = false) := by show _ = _; unfold closeOk; rw [h1]; rfl
    have H1 := Lib.hid h1
    clear h1
    go_enter Tryz.func6, Tryz.ntmps6
    go_wp2_with fail
    refine (hasSystem_any _ _ _ _ _ _ h hm hm2).mono ?_
    rintro e w1 ⟨rfl, hb1⟩
    rw [H1.out]
    go_wp2_with fail
    go_ret2
    exact ⟨_, 0, 0, by rw [HR.out]; rfl, by unfold closeRes; rw [HR.out]; exact own_lit0 hb1, below_next hb1 (below_box _ _) rfl⟩
  · rcases h2 : setB n set with _ | _
    · have HR : Hid (closeOk n xss set = false) := by show _ = _; unfold closeOk; rw [h1, h2]; rfl
      have H1 := Lib.hid h1
      have H2 := Lib.hid h2
      clear h1 h2
      go_enter Tryz.func6, Tryz.ntmps6
      go_wp2_with fail
      refine (hasSystem_any _ _ _ _ _ _ h hm hm2).mono ?_
      rintro e w1 ⟨rfl, hb1⟩
      rw [H1.out]
      go_wp2_with fail
      refine (isSetOf_any _ _ _ _ _ _ (h'.next stab_RI hb1)).mono ?_
      rintro e w2 ⟨rfl, z, rfl⟩
      rw [H2.out]
      go_wp2_with fail
      go_ret2
      exact ⟨_, 0, 0, by rw [HR.out]; rfl, by unfold closeRes; rw [HR.out]; exact own_lit0 (below_drewN hb1 _), below_next (below_drewN hb1 _) (below_box _ _) rfl⟩
    · have HR : Hid (closeOk n xss set = true) := by show _ = _; unfold closeOk; rw [h1, h2]; rfl
      have H1 := Lib.hid h1
      have H2 := Lib.hid h2
      have HM2 := Lib.hid hm2
      clear h1 h2 hm2
      go_enter Tryz.func6, Tryz.ntmps6
      go_wp2_with fail
      refine (hasSystem_any _ _ _ _ _ _ h hm HM2.out).mono ?_
      rintro e w1 ⟨rfl, hb1⟩
      rw [H1.out]
      go_wp2_with fail
      refine (isSetOf_any _ _ _ _ _ _ (h'.next stab_RI hb1)).mono ?_
      rintro e w2 ⟨rfl, z, rfl⟩
      rw [H2.out]
      go_wp2_with fail
      refine (closureIn_any _ _ _ _ _ _ _ _ _ ((h.next stab_RVI hb1).drewN stab_RVI _) ((h'.next stab_RI hb1).drewN stab_RI _) HM2.out).mono ?_
      rintro e w3 ⟨A3, n3, c3, rfl, how, hb3⟩
      go_wp2_with fail
      go_ret2
      have hT := below_drewN hb1 z
      exact ⟨A3, n3, c3, by rw [HR.out]; rfl, by unfold closeRes; rw [HR.out]; exact own_mono how hT.size, below_next hT hb3 rfl⟩

/-- The call hands back an int slice that reads so, and a bool. -/
def RdB (w : World) (xs : List Int) (b : Bool) (e : Ending) (w' : World) : Prop := ∃ A n c, e = .returned (.tuple #[.slice A n c, .bool b]) ∧ RdL RI w' A n xs ∧ Below w.heap.size w w'
set_option maxHeartbeats 1000000 in
theorem specClosureOf_any (A B : Option Addr) (m c j d : Nat) (xss : List (List Int)) (set : List Int) (n : Int) (w : World) (h : RdL (RV RI) w A m xss) (hm2 : ∀ xs ∈ xss, xs.length ≤ 1048576) (h' : RdL RI w B j set) :
    Calls Tryz.prog 7 #[.int .i64 n, .slice A m c, .slice B j d] w (RdB w (closeRes n xss set) (closeOk n xss set)) := by
  rcases h1 : sysRes n xss with _ | _
  · have HR : Hid (closeOk n xss set = false) := by show _ = _; unfold closeOk; rw [h1]; rfl
    have H1 := Lib.hid h1
    clear h1
    go_enter Tryz.func7, Tryz.ntmps7
    go_wp2_with fail
    refine (l30GoodAll_any _ _ _ _ _ _ h).mono ?_
    rintro e w1 ⟨rfl, hb1⟩
    rw [H1.out]
    go_wp2_with fail
    go_ret2
    exact ⟨_, 0, 0, by rw [HR.out]; rfl, by unfold closeRes; rw [HR.out]; exact RdL.nil _ _ _, below_next hb1 (below_box _ _) rfl⟩
  · have hr := sysRes_range h1
    rcases h2 : setB n set with _ | _
    · have HR : Hid (closeOk n xss set = false) := by show _ = _; unfold closeOk; rw [h1, h2]; rfl
      have H1 := Lib.hid h1
      have H2 := Lib.hid h2
      clear h1 h2
      go_enter Tryz.func7, Tryz.ntmps7
      go_wp2_with fail
      refine (l30GoodAll_any _ _ _ _ _ _ h).mono ?_
      rintro e w1 ⟨rfl, hb1⟩
      rw [H1.out]
      go_wp2_with fail
      refine (l30Set_any _ _ _ _ _ _ (h'.next stab_RI hb1) (by omega) (by omega)).mono ?_
      rintro e w2 ⟨rfl, z, rfl⟩
      rw [H2.out]
      go_wp2_with fail
      go_ret2
      exact ⟨_, 0, 0, by rw [HR.out]; rfl, by unfold closeRes; rw [HR.out]; exact RdL.nil _ _ _, below_next (below_drewN hb1 _) (below_box _ _) rfl⟩
    · have HR : Hid (closeOk n xss set = true) := by show _ = _; unfold closeOk; rw [h1, h2]; rfl
      have H1 := Lib.hid h1
      have H2 := Lib.hid h2
      have HM2 := Lib.hid hm2
      clear h1 h2 hm2
      go_enter Tryz.func7, Tryz.ntmps7
      go_wp2_with fail
      refine (l30GoodAll_any _ _ _ _ _ _ h).mono ?_
      rintro e w1 ⟨rfl, hb1⟩
      rw [H1.out]
      go_wp2_with fail
      refine (l30Set_any _ _ _ _ _ _ (h'.next stab_RI hb1) (by omega) (by omega)).mono ?_
      rintro e w2 ⟨rfl, z, rfl⟩
      rw [H2.out]
      go_wp2_with fail
      refine (l30Close_any _ _ _ _ _ _ _ _ _ ((h.next stab_RVI hb1).drewN stab_RVI _) ((h'.next stab_RI hb1).drewN stab_RI _)).mono ?_
      rintro e w3 ⟨A3, n3, c3, rfl, hr3, hb3⟩
      have hn3 : n3 ≤ 1048576 := by rw [← hr3.len]; exact closeL_len HM2.out
      go_wp2_with fail
      refine (l1Own_any _ _ _ _ _ hr3 hn3).mono ?_
      rintro e w4 ⟨A4, c4, rfl, how, hb4⟩
      go_wp2_with fail
      go_ret2
      have hT := below_drewN hb1 z
      exact ⟨A4, n3, c4, by rw [HR.out]; rfl, by unfold closeRes; rw [HR.out]; exact rd_of_own how (fun x hx => ⟨rfl, hr3.bounds x hx⟩), below_next (below_next hT hb3 rfl) hb4 rfl⟩
theorem closeRes_len {n : Int} {xss : List (List Int)} {set : List Int} (h : ∀ xs ∈ xss, xs.length ≤ 1048576) : (closeRes n xss set).length ≤ 1048576 := by
  unfold closeRes
  split
  · exact closeL_len h
  · simp
theorem closeRes_bounds {n : Int} {xss : List (List Int)} {set : List Int} (h : ∀ xs ∈ xss, ∀ x ∈ xs, -9223372036854775808 ≤ x ∧ x ≤ 9223372036854775807) : ∀ x ∈ closeRes n xss set, -9223372036854775808 ≤ x ∧ x ≤ 9223372036854775807 := by
  unfold closeRes
  split
  · exact closeL_bounds h
  · intro x hx; simp at hx
end Go.Proofs.YtlncpabnlnipoaaGreat
