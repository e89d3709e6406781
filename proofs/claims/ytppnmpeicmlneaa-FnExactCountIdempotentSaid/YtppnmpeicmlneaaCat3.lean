
/- Walks: the reference's l31Good. -/
import Derived.Test.YtppnmpeicmlneaaCat2
import Derived.Deep.RegionLaw
namespace Go.Proofs.Ytppnmpeicmlneaa
open Go.RowKit

theorem hasS_step {e : EntryM} {xs : List EntryM} {j : Nat} {f : EntryM} (h : hasS e.1 ((xs.take j).map (·.1)) = false) (hx : xs[j]? = some f) (hne : ¬ f.1 = e.1) : hasS e.1 ((xs.take (j + 1)).map (·.1)) = false := by
  rw [take_snoc hx, List.map_append, List.map_cons, List.map_nil, hasS_snoc, h, eqC_no.2 hne]
  rfl
theorem hasS_hit {e : EntryM} {xs : List EntryM} {j k : Nat} {f : EntryM} (hj : j < k) (hx : xs[j]? = some f) (he : f.1 = e.1) : hasS e.1 ((xs.take k).map (·.1)) = true := by
  rw [hasS_iff, List.mem_map]
  refine ⟨f, List.mem_of_getElem? (i := j) ?_, he⟩
  rw [List.getElem?_take, if_pos hj]
  exact hx
theorem l31Name_is {s : ByteArray} {w : World} {r : Bool} (hr : nameB s = r) (hs : s.size ≤ maxLen) : Calls Try.prog 126 #[.string s] w (Qt w (.bool r)) := hr ▸ quiet_same (l31Name_any s w hs)
set_option linter.unusedSimpArgs false in
set_option maxRecDepth 100000 in
set_option maxHeartbeats 16000000 in
theorem l31Good_any (A : Option Addr) (n c : Nat) (xs : List EntryM) (w : World) (h : RdN shEntry.m shEntry.rd w A n xs) :
    Calls Try.prog 97 #[.slice A n c] w (Bl w (.bool (catB xs))) := by
  obtain rfl : xs.length = n := h.len
  have hle := h.le
  by_cases hn : xs.length ≤ 12
  · have hn' : ¬ (12 : Int) < (xs.length : Int) := by omega
    go_enter Try.func97, Try.ntmps97
    go_wp2_with fail
    go_loopw [3] (fun i wr => ∃ k : Nat, k ≤ xs.length ∧ i = .int .i64 k ∧ CatAt xs k ∧ (∀ e ∈ xs.take k, SmallP e.2) ∧ Below w.heap.size w wr) (fun i _ => xs.length - (intOf i).toNat)
    case atStart => exact ⟨0, Nat.zero_le _, rfl, rfl, (fun e he => by simp at he), Below.refl _ _⟩
    case round =>
      obtain ⟨k, hk, rfl, H, hS, hTw⟩ := hrel
      by_cases hlt : k < xs.length
      · obtain ⟨b, o, vs, e, hA, -, hc, hr, hd, hxe⟩ := h.at hlt
        obtain ⟨Bm, m, d, rfl, hsz, hIn, hops⟩ := rdEntry hr
        have cc0 : wr.cell? ⟨b, o + k * 3, none⟩ = some (.string e.1) := keepc hTw (hc 0 _ rfl)
        have cc1 : wr.cell? ⟨b, o + k * 3 + 1, none⟩ = some (.int .i64 e.2.1) := keepc hTw (hc 1 _ rfl)
        have cc2 : wr.cell? ⟨b, o + k * 3 + 2, none⟩ = some (.slice Bm m d) := keepc hTw (hc 2 _ rfl)
        have hral := mkAlgebra (cOps := d) hIn hops
        have HST := Lib.hid hS
        have HH := Lib.hid H
        have HD := Lib.hid hd
        have HX := Lib.hid hxe
        have hk0 : (0 : Int) ≤ (k : Int) := by omega
        have hk1 : (k : Int) < (xs.length : Int) := by omega
        subst hA
        obtain ⟨pre, HP⟩ : ∃ pre, Hid (xs.take k = pre) := ⟨_, rfl⟩
        have hpl : pre.length = k := by rw [← HP.out, List.length_take]; omega
        have HPL := Lib.hid hpl
        obtain ⟨r1, HR1⟩ : ∃ r, Hid (nameB e.1 = r) := ⟨_, rfl⟩
        obtain ⟨r3, HR3⟩ : ∃ r, Hid (smallB e.2 = r) := ⟨_, rfl⟩
        have HOK : Hid (okE (xs.take k) e = (r1 && (!hasS e.1 ((xs.take k).map (·.1)) && (r3 && (eqC (canA e.2) e.2 && lastB pre e))))) := by show _ = _; rw [HP.out]; unfold okE; rw [HR1.out, HR3.out]
        have HT1 : ∀ wz, Below wr.heap.size wr wz → Calls Try.prog 71 #[.agg #[.int .i64 e.2.1, .slice Bm m d]] wz (Bl wz (.bool r3)) := fun wz hz => by
          have T := below_next hTw hz rfl
          have := l31Takes_any [.int .i64 e.2.1, .slice Bm m d] e.2 wz (shAlgebra.stab hral T.block)
          rw [HR3.out] at this
          exact this
        clear hS H hd hxe hc hr hpl
        have Tk : Below wr.heap.size wr wr := Below.refl _ _
        rcases r1 with _ | _
        · go_upto_region 6 with fail
          go_quiet ((go_at_call 126; exact quiet_one (l31Name_is HR1.out hsz)))
          go_wp2_with fail
          go_ret
          exact ⟨ret_bool (HH.out.stop HD.out (by rw [HOK.out]; rfl)), below_drewN hTw _⟩
        · obtain ⟨q, HQ⟩ : ∃ q, Hid ((r3 && lastB pre e) = q) := ⟨_, rfl⟩
          have HOK2 : Hid (okE (xs.take k) e = (!hasS e.1 ((xs.take k).map (·.1)) && (eqC (canA e.2) e.2 && q))) := by
            show _ = _
            rw [HOK.out, ← HQ.out]
            rcases hasS e.1 ((xs.take k).map (·.1)) <;> rcases r3 <;> rcases eqC (canA e.2) e.2 <;> rcases lastB pre e <;> rfl
          go_upto_region 6 with fail
          go_cut [48] from 8 to 77 (fun v48 wx => v48 = .bool (!q) ∧ Below wr.heap.size wr wx)
          case first =>
            rcases r3 with _ | _
            · obtain rfl : false = q := HQ.out
              refine wp_region_held_drew (S := fun w' => w'.cell? ⟨b, o + k * 3, none⟩ = some (.string e.1) ∧ w'.cell? ⟨b, o + k * 3 + 1, none⟩ = some (.int .i64 e.2.1) ∧ w'.cell? ⟨b, o + k * 3 + 2, none⟩ = some (.slice Bm m d)) (by kernel_rfl) ⟨cc0, cc1, cc2⟩ (fun hHeld0 => ?_)
              refine wpAnyH_take (i := 0) (v := .slice (some ⟨b, o, none⟩) xs.length c) rfl (by kernel_rfl) (by kernel_rfl) (by kernel_rfl) (fun _ _ _ h => h) (Or.inl ⟨by kernel_rfl, fun _ _ => by go_simp⟩) (by assumption) ?_
              (try simp only [Act.put, List.setIfInBounds_toArray, List.set_cons_zero, List.set_cons_succ])
              refine wpAnyH_take (i := 1) (v := .int .i64 (k : Int)) rfl (by kernel_rfl) (by kernel_rfl) (by kernel_rfl) (fun _ _ _ h => h) (Or.inl ⟨by kernel_rfl, fun _ _ => by go_simp⟩) (by assumption) ?_
              (try simp only [Act.put, List.setIfInBounds_toArray, List.set_cons_zero, List.set_cons_succ])
              refine wpAnyH_take (i := 2) (v := .pointer (some ⟨b, o + k * 3, none⟩)) rfl (by kernel_rfl) (by kernel_rfl) (by kernel_rfl) (fun _ _ _ h => h) (Or.inl ⟨by kernel_rfl, fun _ _ => by go_simp⟩) (by assumption) ?_
              (try simp only [Act.put, List.setIfInBounds_toArray, List.set_cons_zero, List.set_cons_succ])
              refine wpAnyH_take (i := 3) (v := .pointer (some ⟨b, o + k * 3, none⟩)) rfl (by kernel_rfl) (by kernel_rfl) (by kernel_rfl) (fun _ _ _ h => h) (Or.inl ⟨by kernel_rfl, fun _ _ => by go_simp⟩) (by assumption) ?_
              (try simp only [Act.put, List.setIfInBounds_toArray, List.set_cons_zero, List.set_cons_succ])
              refine wpAnyH_take (i := 4) (v := .string e.1) rfl (by kernel_rfl) (by kernel_rfl) (by kernel_rfl) (fun _ _ _ h => h) (Or.inl ⟨by kernel_rfl, fun wv hSw => by (obtain ⟨hS0, hS1, hS2⟩ := hSw); go_simp⟩) (by assumption) ?_
              (try simp only [Act.put, List.setIfInBounds_toArray, List.set_cons_zero, List.set_cons_succ])
              refine wpAnyH_ready (rs := [5]) (by kernel_rfl) (by simp) ?_
              refine AllReadyH.cons rfl (fun K hK => ?_) AllReadyH.nil
              go_simp
              refine (l31Name_any _ _ hsz).mono ?_
              rintro e' wn ⟨rfl, rfl⟩
              rw [HR1.out]
              replace Tk := Below.drew Tk
              go_wp2_with fail
              refine hK.out _ _ ⟨keepc Tk cc0, keepc Tk cc1, keepc Tk cc2⟩ (fun hHeld1 => ?_)
              clear hK K hHeld0
              (try simp only [Act.put, List.setIfInBounds_toArray, List.set_cons_zero, List.set_cons_succ])
              refine wpAnyH_take (i := 6) (v := .bool false) rfl (by kernel_rfl) (by kernel_rfl) (by kernel_rfl) (fun _ _ _ h => h) (Or.inl ⟨by kernel_rfl, fun _ _ => by go_simp⟩) (by assumption) ?_
              (try simp only [Act.put, List.setIfInBounds_toArray, List.set_cons_zero, List.set_cons_succ])
              refine wpAnyH_take (i := 7) (v := .bool false) rfl (by kernel_rfl) (by kernel_rfl) (by kernel_rfl) (fun _ _ _ h => h) (Or.inl ⟨by kernel_rfl, fun _ _ => by go_simp⟩) (by assumption) ?_
              (try simp only [Act.put, List.setIfInBounds_toArray, List.set_cons_zero, List.set_cons_succ])
              refine wpAnyH_take (i := 8) (v := .slice (some ⟨b, o, none⟩) xs.length c) rfl (by kernel_rfl) (by kernel_rfl) (by kernel_rfl) (fun _ _ _ h => h) (Or.inl ⟨by kernel_rfl, fun _ _ => by go_simp⟩) (by assumption) ?_
              (try simp only [Act.put, List.setIfInBounds_toArray, List.set_cons_zero, List.set_cons_succ])
              refine wpAnyH_take (i := 9) (v := .int .i64 (k : Int)) rfl (by kernel_rfl) (by kernel_rfl) (by kernel_rfl) (fun _ _ _ h => h) (Or.inl ⟨by kernel_rfl, fun _ _ => by go_simp⟩) (by assumption) ?_
              (try simp only [Act.put, List.setIfInBounds_toArray, List.set_cons_zero, List.set_cons_succ])
              refine wpAnyH_take (i := 10) (v := .pointer (some ⟨b, o + k * 3, none⟩)) rfl (by kernel_rfl) (by kernel_rfl) (by kernel_rfl) (fun _ _ _ h => h) (Or.inl ⟨by kernel_rfl, fun _ _ => by go_simp⟩) (by assumption) ?_
              (try simp only [Act.put, List.setIfInBounds_toArray, List.set_cons_zero, List.set_cons_succ])
              refine wpAnyH_take (i := 11) (v := .pointer (some ⟨b, o + k * 3 + 1, none⟩)) rfl (by kernel_rfl) (by kernel_rfl) (by kernel_rfl) (fun _ _ _ h => h) (Or.inl ⟨by kernel_rfl, fun _ _ => by go_simp⟩) (by assumption) ?_
              (try simp only [Act.put, List.setIfInBounds_toArray, List.set_cons_zero, List.set_cons_succ])
              refine wpAnyH_take (i := 12) (v := .agg #[.int .i64 e.2.1, .slice Bm m d]) rfl (by kernel_rfl) (by kernel_rfl) (by kernel_rfl) (fun _ _ _ h => h) (Or.inl ⟨by kernel_rfl, fun wv hSw => by (obtain ⟨hS0, hS1, hS2⟩ := hSw); go_simp⟩) (by assumption) ?_
              (try simp only [Act.put, List.setIfInBounds_toArray, List.set_cons_zero, List.set_cons_succ])
              refine wpAnyH_ready (rs := [13]) (by kernel_rfl) (by simp) ?_
              refine AllReadyH.cons rfl (fun K hK => ?_) AllReadyH.nil
              go_simp
              refine (HT1 _ Tk).mono ?_
              rintro e' wn ⟨rfl, hbn⟩
              replace Tk := below_next Tk hbn rfl
              go_wp2_with fail
              refine hK.out _ _ ⟨keepc Tk cc0, keepc Tk cc1, keepc Tk cc2⟩ (fun hHeld2 => ?_)
              clear hK K hHeld1
              (try simp only [Act.put, List.setIfInBounds_toArray, List.set_cons_zero, List.set_cons_succ])
              refine wpAnyH_take (i := 14) (v := .bool true) rfl (by kernel_rfl) (by kernel_rfl) (by kernel_rfl) (fun _ _ _ h => h) (Or.inl ⟨by kernel_rfl, fun _ _ => by go_simp⟩) (by assumption) ?_
              (try simp only [Act.put, List.setIfInBounds_toArray, List.set_cons_zero, List.set_cons_succ])
              refine wpAnyH_take (i := 15) (v := .bool true) rfl (by kernel_rfl) (by kernel_rfl) (by kernel_rfl) (fun _ _ _ h => h) (Or.inl ⟨by kernel_rfl, fun _ _ => by go_simp⟩) (by assumption) ?_
              (try simp only [Act.put, List.setIfInBounds_toArray, List.set_cons_zero, List.set_cons_succ])
              refine wpAnyH_take (i := 16) (v := .bool true) rfl (by kernel_rfl) (by kernel_rfl) (by kernel_rfl) (fun _ _ _ h => h) (Or.inl ⟨by kernel_rfl, fun _ _ => by go_simp⟩) (by assumption) ?_
              (try simp only [Act.put, List.setIfInBounds_toArray, List.set_cons_zero, List.set_cons_succ])
              refine wpAnyH_take (i := 17) (v := undef) rfl (by kernel_rfl) (by kernel_rfl) (by kernel_rfl) (fun _ _ _ h => h) (Or.inr ⟨by kernel_rfl, rfl⟩) (by assumption) ?_
              (try simp only [Act.put, List.setIfInBounds_toArray, List.set_cons_zero, List.set_cons_succ])
              refine wpAnyH_take (i := 18) (v := undef) rfl (by kernel_rfl) (by kernel_rfl) (by kernel_rfl) (fun _ _ _ h => h) (Or.inr ⟨by kernel_rfl, rfl⟩) (by assumption) ?_
              (try simp only [Act.put, List.setIfInBounds_toArray, List.set_cons_zero, List.set_cons_succ])
              refine wpAnyH_take (i := 19) (v := undef) rfl (by kernel_rfl) (by kernel_rfl) (by kernel_rfl) (fun _ _ _ h => h) (Or.inr ⟨by kernel_rfl, rfl⟩) (by assumption) ?_
              (try simp only [Act.put, List.setIfInBounds_toArray, List.set_cons_zero, List.set_cons_succ])
              refine wpAnyH_take (i := 20) (v := undef) rfl (by kernel_rfl) (by kernel_rfl) (by kernel_rfl) (fun _ _ _ h => h) (Or.inr ⟨by kernel_rfl, rfl⟩) (by assumption) ?_
              (try simp only [Act.put, List.setIfInBounds_toArray, List.set_cons_zero, List.set_cons_succ])
              refine wpAnyH_take (i := 21) (v := undef) rfl (by kernel_rfl) (by kernel_rfl) (by kernel_rfl) (fun _ _ _ h => h) (Or.inr ⟨by kernel_rfl, rfl⟩) (by assumption) ?_
              (try simp only [Act.put, List.setIfInBounds_toArray, List.set_cons_zero, List.set_cons_succ])
              refine wpAnyH_take (i := 22) (v := undef) rfl (by kernel_rfl) (by kernel_rfl) (by kernel_rfl) (fun _ _ _ h => h) (Or.inr ⟨by kernel_rfl, rfl⟩) (by assumption) ?_
              (try simp only [Act.put, List.setIfInBounds_toArray, List.set_cons_zero, List.set_cons_succ])
              refine wpAnyH_take (i := 23) (v := undef) rfl (by kernel_rfl) (by kernel_rfl) (by kernel_rfl) (fun _ _ _ h => h) (Or.inr ⟨by kernel_rfl, rfl⟩) (by assumption) ?_
              (try simp only [Act.put, List.setIfInBounds_toArray, List.set_cons_zero, List.set_cons_succ])
              refine wpAnyH_take (i := 24) (v := undef) rfl (by kernel_rfl) (by kernel_rfl) (by kernel_rfl) (fun _ _ _ h => h) (Or.inr ⟨by kernel_rfl, rfl⟩) (by assumption) ?_
              (try simp only [Act.put, List.setIfInBounds_toArray, List.set_cons_zero, List.set_cons_succ])
              refine wpAnyH_take (i := 25) (v := undef) rfl (by kernel_rfl) (by kernel_rfl) (by kernel_rfl) (fun _ _ _ h => h) (Or.inr ⟨by kernel_rfl, rfl⟩) (by assumption) ?_
              (try simp only [Act.put, List.setIfInBounds_toArray, List.set_cons_zero, List.set_cons_succ])
              refine wpAnyH_take (i := 26) (v := undef) rfl (by kernel_rfl) (by kernel_rfl) (by kernel_rfl) (fun _ _ _ h => h) (Or.inr ⟨by kernel_rfl, rfl⟩) (by assumption) ?_
              (try simp only [Act.put, List.setIfInBounds_toArray, List.set_cons_zero, List.set_cons_succ])
              refine wpAnyH_take (i := 27) (v := undef) rfl (by kernel_rfl) (by kernel_rfl) (by kernel_rfl) (fun _ _ _ h => h) (Or.inr ⟨by kernel_rfl, rfl⟩) (by assumption) ?_
              (try simp only [Act.put, List.setIfInBounds_toArray, List.set_cons_zero, List.set_cons_succ])
              refine wpAnyH_take (i := 28) (v := undef) rfl (by kernel_rfl) (by kernel_rfl) (by kernel_rfl) (fun _ _ _ h => h) (Or.inr ⟨by kernel_rfl, rfl⟩) (by assumption) ?_
              (try simp only [Act.put, List.setIfInBounds_toArray, List.set_cons_zero, List.set_cons_succ])
              refine wpAnyH_take (i := 29) (v := undef) rfl (by kernel_rfl) (by kernel_rfl) (by kernel_rfl) (fun _ _ _ h => h) (Or.inr ⟨by kernel_rfl, rfl⟩) (by assumption) ?_
              (try simp only [Act.put, List.setIfInBounds_toArray, List.set_cons_zero, List.set_cons_succ])
              refine wpAnyH_take (i := 30) (v := undef) rfl (by kernel_rfl) (by kernel_rfl) (by kernel_rfl) (fun _ _ _ h => h) (Or.inr ⟨by kernel_rfl, rfl⟩) (by assumption) ?_
              (try simp only [Act.put, List.setIfInBounds_toArray, List.set_cons_zero, List.set_cons_succ])
              refine wpAnyH_take (i := 31) (v := undef) rfl (by kernel_rfl) (by kernel_rfl) (by kernel_rfl) (fun _ _ _ h => h) (Or.inr ⟨by kernel_rfl, rfl⟩) (by assumption) ?_
              (try simp only [Act.put, List.setIfInBounds_toArray, List.set_cons_zero, List.set_cons_succ])
              refine wpAnyH_take (i := 32) (v := undef) rfl (by kernel_rfl) (by kernel_rfl) (by kernel_rfl) (fun _ _ _ h => h) (Or.inr ⟨by kernel_rfl, rfl⟩) (by assumption) ?_
              (try simp only [Act.put, List.setIfInBounds_toArray, List.set_cons_zero, List.set_cons_succ])
              refine wpAnyH_take (i := 33) (v := undef) rfl (by kernel_rfl) (by kernel_rfl) (by kernel_rfl) (fun _ _ _ h => h) (Or.inr ⟨by kernel_rfl, rfl⟩) (by assumption) ?_
              (try simp only [Act.put, List.getElem_toArray, List.getElem_cons_zero, List.getElem_cons_succ, List.setIfInBounds_toArray, List.set_cons_zero, List.set_cons_succ])
              refine wpAnyH_take (i := 34) (v := .bool true) rfl (by kernel_rfl) (by kernel_rfl) (by kernel_rfl) (fun _ _ _ h => h) (Or.inl ⟨by kernel_rfl, fun _ _ => by go_simp⟩) (by assumption) ?_
              (try simp only [Act.put, List.getElem_toArray, List.getElem_cons_zero, List.getElem_cons_succ, List.setIfInBounds_toArray, List.set_cons_zero, List.set_cons_succ])
              refine wpAnyH_done (by kernel_rfl) ?_ _
              all_goals
                go_wp2_with fail
                go_meet
                exact ⟨rfl, by first | exact Tk | exact Below.drew Tk⟩
            · have hsm := small_iff.1 HR3.out
              by_cases hk00 : k = 0
              · have HLB : Hid (true = q) := by
                  show _ = _
                  have : pre = [] := List.eq_nil_of_length_eq_zero (by rw [HPL.out]; exact hk00)
                  have h2 := HQ.out
                  rw [this] at h2
                  exact h2
                have hq : (!q) = false := by rw [← HLB.out]; rfl
                have HQ3 := Lib.hid hq
                have hkz2 : decide (0 < k) = false := decide_eq_false (by omega)
                clear hk00 hq
                refine wp_region_held_drew (S := fun w' => w'.cell? ⟨b, o + k * 3, none⟩ = some (.string e.1) ∧ w'.cell? ⟨b, o + k * 3 + 1, none⟩ = some (.int .i64 e.2.1) ∧ w'.cell? ⟨b, o + k * 3 + 2, none⟩ = some (.slice Bm m d)) (by kernel_rfl) ⟨cc0, cc1, cc2⟩ (fun hHeld0 => ?_)
                refine wpAnyH_take (i := 0) (v := .slice (some ⟨b, o, none⟩) xs.length c) rfl (by kernel_rfl) (by kernel_rfl) (by kernel_rfl) (fun _ _ _ h => h) (Or.inl ⟨by kernel_rfl, fun _ _ => by go_simp⟩) (by assumption) ?_
                (try simp only [Act.put, List.setIfInBounds_toArray, List.set_cons_zero, List.set_cons_succ])
                refine wpAnyH_take (i := 1) (v := .int .i64 (k : Int)) rfl (by kernel_rfl) (by kernel_rfl) (by kernel_rfl) (fun _ _ _ h => h) (Or.inl ⟨by kernel_rfl, fun _ _ => by go_simp⟩) (by assumption) ?_
                (try simp only [Act.put, List.setIfInBounds_toArray, List.set_cons_zero, List.set_cons_succ])
                refine wpAnyH_take (i := 2) (v := .pointer (some ⟨b, o + k * 3, none⟩)) rfl (by kernel_rfl) (by kernel_rfl) (by kernel_rfl) (fun _ _ _ h => h) (Or.inl ⟨by kernel_rfl, fun _ _ => by go_simp⟩) (by assumption) ?_
                (try simp only [Act.put, List.setIfInBounds_toArray, List.set_cons_zero, List.set_cons_succ])
                refine wpAnyH_take (i := 3) (v := .pointer (some ⟨b, o + k * 3, none⟩)) rfl (by kernel_rfl) (by kernel_rfl) (by kernel_rfl) (fun _ _ _ h => h) (Or.inl ⟨by kernel_rfl, fun _ _ => by go_simp⟩) (by assumption) ?_
                (try simp only [Act.put, List.setIfInBounds_toArray, List.set_cons_zero, List.set_cons_succ])
                refine wpAnyH_take (i := 4) (v := .string e.1) rfl (by kernel_rfl) (by kernel_rfl) (by kernel_rfl) (fun _ _ _ h => h) (Or.inl ⟨by kernel_rfl, fun wv hSw => by (obtain ⟨hS0, hS1, hS2⟩ := hSw); go_simp⟩) (by assumption) ?_
                (try simp only [Act.put, List.setIfInBounds_toArray, List.set_cons_zero, List.set_cons_succ])
                refine wpAnyH_ready (rs := [5]) (by kernel_rfl) (by simp) ?_
                refine AllReadyH.cons rfl (fun K hK => ?_) AllReadyH.nil
                go_simp
                refine (l31Name_any _ _ hsz).mono ?_
                rintro e' wn ⟨rfl, rfl⟩
                rw [HR1.out]
                replace Tk := Below.drew Tk
                go_wp2_with fail
                refine hK.out _ _ ⟨keepc Tk cc0, keepc Tk cc1, keepc Tk cc2⟩ (fun hHeld1 => ?_)
                clear hK K hHeld0
                (try simp only [Act.put, List.setIfInBounds_toArray, List.set_cons_zero, List.set_cons_succ])
                refine wpAnyH_take (i := 6) (v := .bool false) rfl (by kernel_rfl) (by kernel_rfl) (by kernel_rfl) (fun _ _ _ h => h) (Or.inl ⟨by kernel_rfl, fun _ _ => by go_simp⟩) (by assumption) ?_
                (try simp only [Act.put, List.setIfInBounds_toArray, List.set_cons_zero, List.set_cons_succ])
                refine wpAnyH_take (i := 7) (v := .bool false) rfl (by kernel_rfl) (by kernel_rfl) (by kernel_rfl) (fun _ _ _ h => h) (Or.inl ⟨by kernel_rfl, fun _ _ => by go_simp⟩) (by assumption) ?_
                (try simp only [Act.put, List.setIfInBounds_toArray, List.set_cons_zero, List.set_cons_succ])
                refine wpAnyH_take (i := 8) (v := .slice (some ⟨b, o, none⟩) xs.length c) rfl (by kernel_rfl) (by kernel_rfl) (by kernel_rfl) (fun _ _ _ h => h) (Or.inl ⟨by kernel_rfl, fun _ _ => by go_simp⟩) (by assumption) ?_
                (try simp only [Act.put, List.setIfInBounds_toArray, List.set_cons_zero, List.set_cons_succ])
                refine wpAnyH_take (i := 9) (v := .int .i64 (k : Int)) rfl (by kernel_rfl) (by kernel_rfl) (by kernel_rfl) (fun _ _ _ h => h) (Or.inl ⟨by kernel_rfl, fun _ _ => by go_simp⟩) (by assumption) ?_
                (try simp only [Act.put, List.setIfInBounds_toArray, List.set_cons_zero, List.set_cons_succ])
                refine wpAnyH_take (i := 10) (v := .pointer (some ⟨b, o + k * 3, none⟩)) rfl (by kernel_rfl) (by kernel_rfl) (by kernel_rfl) (fun _ _ _ h => h) (Or.inl ⟨by kernel_rfl, fun _ _ => by go_simp⟩) (by assumption) ?_
                (try simp only [Act.put, List.setIfInBounds_toArray, List.set_cons_zero, List.set_cons_succ])
                refine wpAnyH_take (i := 11) (v := .pointer (some ⟨b, o + k * 3 + 1, none⟩)) rfl (by kernel_rfl) (by kernel_rfl) (by kernel_rfl) (fun _ _ _ h => h) (Or.inl ⟨by kernel_rfl, fun _ _ => by go_simp⟩) (by assumption) ?_
                (try simp only [Act.put, List.setIfInBounds_toArray, List.set_cons_zero, List.set_cons_succ])
                refine wpAnyH_take (i := 12) (v := .agg #[.int .i64 e.2.1, .slice Bm m d]) rfl (by kernel_rfl) (by kernel_rfl) (by kernel_rfl) (fun _ _ _ h => h) (Or.inl ⟨by kernel_rfl, fun wv hSw => by (obtain ⟨hS0, hS1, hS2⟩ := hSw); go_simp⟩) (by assumption) ?_
                (try simp only [Act.put, List.setIfInBounds_toArray, List.set_cons_zero, List.set_cons_succ])
                refine wpAnyH_ready (rs := [13]) (by kernel_rfl) (by simp) ?_
                refine AllReadyH.cons rfl (fun K hK => ?_) AllReadyH.nil
                go_simp
                refine (HT1 _ Tk).mono ?_
                rintro e' wn ⟨rfl, hbn⟩
                replace Tk := below_next Tk hbn rfl
                go_wp2_with fail
                refine hK.out _ _ ⟨keepc Tk cc0, keepc Tk cc1, keepc Tk cc2⟩ (fun hHeld2 => ?_)
                clear hK K hHeld1
                (try simp only [Act.put, List.setIfInBounds_toArray, List.set_cons_zero, List.set_cons_succ])
                refine wpAnyH_take (i := 14) (v := .bool false) rfl (by kernel_rfl) (by kernel_rfl) (by kernel_rfl) (fun _ _ _ h => h) (Or.inl ⟨by kernel_rfl, fun _ _ => by go_simp⟩) (by assumption) ?_
                (try simp only [Act.put, List.setIfInBounds_toArray, List.set_cons_zero, List.set_cons_succ])
                refine wpAnyH_take (i := 15) (v := .bool false) rfl (by kernel_rfl) (by kernel_rfl) (by kernel_rfl) (fun _ _ _ h => h) (Or.inl ⟨by kernel_rfl, fun _ _ => by go_simp⟩) (by assumption) ?_
                (try simp only [Act.put, List.setIfInBounds_toArray, List.set_cons_zero, List.set_cons_succ])
                refine wpAnyH_take (i := 16) (v := .bool false) rfl (by kernel_rfl) (by kernel_rfl) (by kernel_rfl) (fun _ _ _ h => h) (Or.inl ⟨by kernel_rfl, fun _ _ => by go_simp⟩) (by assumption) ?_
                (try simp only [Act.put, List.setIfInBounds_toArray, List.set_cons_zero, List.set_cons_succ])
                refine wpAnyH_take (i := 17) (v := .int .i64 (k : Int)) rfl (by kernel_rfl) (by kernel_rfl) (by kernel_rfl) (fun _ _ _ h => h) (Or.inl ⟨by kernel_rfl, fun _ _ => by go_simp⟩) (by assumption) ?_
                (try simp only [Act.put, List.setIfInBounds_toArray, List.set_cons_zero, List.set_cons_succ])
                refine wpAnyH_take (i := 18) (v := .bool false) rfl (by kernel_rfl) (by kernel_rfl) (by kernel_rfl) (fun _ _ _ h => h) (Or.inl ⟨by kernel_rfl, fun _ _ => by go_simp⟩) (by assumption) ?_
                (try simp only [Act.put, List.setIfInBounds_toArray, List.set_cons_zero, List.set_cons_succ])
                refine wpAnyH_take (i := 19) (v := .bool false) rfl (by kernel_rfl) (by kernel_rfl) (by kernel_rfl) (fun _ _ _ h => h) (Or.inl ⟨by kernel_rfl, fun _ _ => by go_simp⟩) (by assumption) ?_
                (try simp only [Act.put, List.setIfInBounds_toArray, List.set_cons_zero, List.set_cons_succ])
                refine wpAnyH_take (i := 20) (v := undef) rfl (by kernel_rfl) (by kernel_rfl) (by kernel_rfl) (fun _ _ _ h => h) (Or.inr ⟨by kernel_rfl, rfl⟩) (by assumption) ?_
                (try simp only [Act.put, List.setIfInBounds_toArray, List.set_cons_zero, List.set_cons_succ])
                refine wpAnyH_take (i := 21) (v := undef) rfl (by kernel_rfl) (by kernel_rfl) (by kernel_rfl) (fun _ _ _ h => h) (Or.inr ⟨by kernel_rfl, rfl⟩) (by assumption) ?_
                (try simp only [Act.put, List.setIfInBounds_toArray, List.set_cons_zero, List.set_cons_succ])
                refine wpAnyH_take (i := 22) (v := undef) rfl (by kernel_rfl) (by kernel_rfl) (by kernel_rfl) (fun _ _ _ h => h) (Or.inr ⟨by kernel_rfl, rfl⟩) (by assumption) ?_
                (try simp only [Act.put, List.setIfInBounds_toArray, List.set_cons_zero, List.set_cons_succ])
                refine wpAnyH_take (i := 23) (v := undef) rfl (by kernel_rfl) (by kernel_rfl) (by kernel_rfl) (fun _ _ _ h => h) (Or.inr ⟨by kernel_rfl, rfl⟩) (by assumption) ?_
                (try simp only [Act.put, List.setIfInBounds_toArray, List.set_cons_zero, List.set_cons_succ])
                refine wpAnyH_take (i := 24) (v := undef) rfl (by kernel_rfl) (by kernel_rfl) (by kernel_rfl) (fun _ _ _ h => h) (Or.inr ⟨by kernel_rfl, rfl⟩) (by assumption) ?_
                (try simp only [Act.put, List.setIfInBounds_toArray, List.set_cons_zero, List.set_cons_succ])
                refine wpAnyH_take (i := 25) (v := undef) rfl (by kernel_rfl) (by kernel_rfl) (by kernel_rfl) (fun _ _ _ h => h) (Or.inr ⟨by kernel_rfl, rfl⟩) (by assumption) ?_
                (try simp only [Act.put, List.setIfInBounds_toArray, List.set_cons_zero, List.set_cons_succ])
                refine wpAnyH_take (i := 26) (v := undef) rfl (by kernel_rfl) (by kernel_rfl) (by kernel_rfl) (fun _ _ _ h => h) (Or.inr ⟨by kernel_rfl, rfl⟩) (by assumption) ?_
                (try simp only [Act.put, List.setIfInBounds_toArray, List.set_cons_zero, List.set_cons_succ])
                refine wpAnyH_take (i := 27) (v := undef) rfl (by kernel_rfl) (by kernel_rfl) (by kernel_rfl) (fun _ _ _ h => h) (Or.inr ⟨by kernel_rfl, rfl⟩) (by assumption) ?_
                (try simp only [Act.put, List.setIfInBounds_toArray, List.set_cons_zero, List.set_cons_succ])
                refine wpAnyH_take (i := 28) (v := undef) rfl (by kernel_rfl) (by kernel_rfl) (by kernel_rfl) (fun _ _ _ h => h) (Or.inr ⟨by kernel_rfl, rfl⟩) (by assumption) ?_
                (try simp only [Act.put, List.setIfInBounds_toArray, List.set_cons_zero, List.set_cons_succ])
                refine wpAnyH_take (i := 29) (v := undef) rfl (by kernel_rfl) (by kernel_rfl) (by kernel_rfl) (fun _ _ _ h => h) (Or.inr ⟨by kernel_rfl, rfl⟩) (by assumption) ?_
                (try simp only [Act.put, List.setIfInBounds_toArray, List.set_cons_zero, List.set_cons_succ])
                refine wpAnyH_take (i := 30) (v := undef) rfl (by kernel_rfl) (by kernel_rfl) (by kernel_rfl) (fun _ _ _ h => h) (Or.inr ⟨by kernel_rfl, rfl⟩) (by assumption) ?_
                (try simp only [Act.put, List.setIfInBounds_toArray, List.set_cons_zero, List.set_cons_succ])
                refine wpAnyH_take (i := 31) (v := undef) rfl (by kernel_rfl) (by kernel_rfl) (by kernel_rfl) (fun _ _ _ h => h) (Or.inr ⟨by kernel_rfl, rfl⟩) (by assumption) ?_
                (try simp only [Act.put, List.setIfInBounds_toArray, List.set_cons_zero, List.set_cons_succ])
                refine wpAnyH_take (i := 32) (v := undef) rfl (by kernel_rfl) (by kernel_rfl) (by kernel_rfl) (fun _ _ _ h => h) (Or.inr ⟨by kernel_rfl, rfl⟩) (by assumption) ?_
                (try simp only [Act.put, List.setIfInBounds_toArray, List.set_cons_zero, List.set_cons_succ])
                refine wpAnyH_take (i := 33) (v := .bool false) rfl (by kernel_rfl) (by kernel_rfl) (by kernel_rfl) (fun _ _ _ h => h) (Or.inl ⟨by kernel_rfl, fun _ _ => by go_simp⟩) (by assumption) ?_
                (try simp only [Act.put, List.getElem_toArray, List.getElem_cons_zero, List.getElem_cons_succ, List.setIfInBounds_toArray, List.set_cons_zero, List.set_cons_succ])
                refine wpAnyH_take (i := 34) (v := .bool false) rfl (by kernel_rfl) (by kernel_rfl) (by kernel_rfl) (fun _ _ _ h => h) (Or.inl ⟨by kernel_rfl, fun _ _ => by go_simp⟩) (by assumption) ?_
                (try simp only [Act.put, List.getElem_toArray, List.getElem_cons_zero, List.getElem_cons_succ, List.setIfInBounds_toArray, List.set_cons_zero, List.set_cons_succ])
                refine wpAnyH_done (by kernel_rfl) ?_ _
                all_goals
                  go_wp2_with fail
                  go_meet
                  exact ⟨by rw [HQ3.out], by first | exact Tk | exact Below.drew Tk⟩
              · obtain ⟨b', o', vs', p, hA', -, hc', hr', -, hxp⟩ := h.at (k := k - 1) (by omega)
                have hA2 := hA'
                simp only [Option.some.injEq, Addr.mk.injEq, and_true] at hA2
                obtain ⟨rfl, rfl⟩ := hA2
                obtain ⟨Bp, mp, dp, rfl, -, hIp, hops'⟩ := rdEntry hr'
                have hpm : p ∈ xs.take k := by
                  have : (xs.take k)[k - 1]? = some p := by rw [List.getElem?_take, if_pos (by omega)]; exact hxp
                  exact List.mem_of_getElem? this
                have hsp := HST.out p hpm
                have HLB : Hid (befB p.2 e.2 = q) := by
                  show _ = _
                  rw [← HQ.out]
                  unfold lastB
                  rw [← HP.out, List.getLast?_take, if_neg hk00, hxp]
                  rfl
                have hral' := mkAlgebra (cOps := dp) hIp hops'
                have d1 : wr.cell? ⟨b, o + (k - 1) * 3 + 1, none⟩ = some (.int .i64 p.2.1) := keepc hTw (hc' 1 _ rfl)
                have d2 : wr.cell? ⟨b, o + (k - 1) * 3 + 2, none⟩ = some (.slice Bp mp dp) := keepc hTw (hc' 2 _ rfl)
                have HC1 : ∀ wz, Below wr.heap.size wr wz → Calls Try.prog 127 #[.agg #[.int .i64 p.2.1, .slice Bp mp dp], .agg #[.int .i64 e.2.1, .slice Bm m d]] wz (Bl wz (.bool q)) := fun wz hz => by
                  have T := below_next hTw hz rfl
                  have := l31Before_any [.int .i64 p.2.1, .slice Bp mp dp] [.int .i64 e.2.1, .slice Bm m d] p.2 e.2 wz (shAlgebra.stab hral' T.block) (shAlgebra.stab hral T.block) hsp hsm
                  rw [HLB.out] at this
                  exact this
                clear hA' hc' hr' hxp hpm hops' hops hIp
                have hw1 : IntKind.i64.wrap ((k : Int) - 1) = (k : Int) - 1 := IntWalk.i64_in _ ⟨by omega, by omega⟩
                have hw3 : (0 : Int) ≤ (k : Int) - 1 := by omega
                have hw4 : (k : Int) - 1 < (xs.length : Int) := by omega
                have hkz2 : decide (0 < k) = true := decide_eq_true (by omega)
                have hw5 : (1 : Int) ≤ (k : Int) := by omega
                have hw6 : (k : Int) ≤ (xs.length : Int) := by omega
                have hw7 : 1 ≤ k := by omega
                have hw8 : 0 < k := by omega
                clear hk00
                refine wp_region_held_drew (S := fun w' => w'.cell? ⟨b, o + k * 3, none⟩ = some (.string e.1) ∧ w'.cell? ⟨b, o + k * 3 + 1, none⟩ = some (.int .i64 e.2.1) ∧ w'.cell? ⟨b, o + k * 3 + 2, none⟩ = some (.slice Bm m d) ∧ w'.cell? ⟨b, o + (k - 1) * 3 + 1, none⟩ = some (.int .i64 p.2.1) ∧ w'.cell? ⟨b, o + (k - 1) * 3 + 2, none⟩ = some (.slice Bp mp dp)) (by kernel_rfl) ⟨cc0, cc1, cc2, d1, d2⟩ (fun hHeld0 => ?_)
                refine wpAnyH_take (i := 0) (v := .slice (some ⟨b, o, none⟩) xs.length c) rfl (by kernel_rfl) (by kernel_rfl) (by kernel_rfl) (fun _ _ _ h => h) (Or.inl ⟨by kernel_rfl, fun _ _ => by go_simp⟩) (by assumption) ?_
                (try simp only [Act.put, List.setIfInBounds_toArray, List.set_cons_zero, List.set_cons_succ])
                refine wpAnyH_take (i := 1) (v := .int .i64 (k : Int)) rfl (by kernel_rfl) (by kernel_rfl) (by kernel_rfl) (fun _ _ _ h => h) (Or.inl ⟨by kernel_rfl, fun _ _ => by go_simp⟩) (by assumption) ?_
                (try simp only [Act.put, List.setIfInBounds_toArray, List.set_cons_zero, List.set_cons_succ])
                refine wpAnyH_take (i := 2) (v := .pointer (some ⟨b, o + k * 3, none⟩)) rfl (by kernel_rfl) (by kernel_rfl) (by kernel_rfl) (fun _ _ _ h => h) (Or.inl ⟨by kernel_rfl, fun _ _ => by go_simp⟩) (by assumption) ?_
                (try simp only [Act.put, List.setIfInBounds_toArray, List.set_cons_zero, List.set_cons_succ])
                refine wpAnyH_take (i := 3) (v := .pointer (some ⟨b, o + k * 3, none⟩)) rfl (by kernel_rfl) (by kernel_rfl) (by kernel_rfl) (fun _ _ _ h => h) (Or.inl ⟨by kernel_rfl, fun _ _ => by go_simp⟩) (by assumption) ?_
                (try simp only [Act.put, List.setIfInBounds_toArray, List.set_cons_zero, List.set_cons_succ])
                refine wpAnyH_take (i := 4) (v := .string e.1) rfl (by kernel_rfl) (by kernel_rfl) (by kernel_rfl) (fun _ _ _ h => h) (Or.inl ⟨by kernel_rfl, fun wv hSw => by (obtain ⟨hS0, hS1, hS2, hS3, hS4⟩ := hSw); go_simp⟩) (by assumption) ?_
                (try simp only [Act.put, List.setIfInBounds_toArray, List.set_cons_zero, List.set_cons_succ])
                refine wpAnyH_ready (rs := [5]) (by kernel_rfl) (by simp) ?_
                refine AllReadyH.cons rfl (fun K hK => ?_) AllReadyH.nil
                go_simp
                refine (l31Name_any _ _ hsz).mono ?_
                rintro e' wn ⟨rfl, rfl⟩
                rw [HR1.out]
                replace Tk := Below.drew Tk
                go_wp2_with fail
                refine hK.out _ _ ⟨keepc Tk cc0, keepc Tk cc1, keepc Tk cc2, keepc Tk d1, keepc Tk d2⟩ (fun hHeld1 => ?_)
                clear hK K hHeld0
                (try simp only [Act.put, List.setIfInBounds_toArray, List.set_cons_zero, List.set_cons_succ])
                refine wpAnyH_take (i := 6) (v := .bool false) rfl (by kernel_rfl) (by kernel_rfl) (by kernel_rfl) (fun _ _ _ h => h) (Or.inl ⟨by kernel_rfl, fun _ _ => by go_simp⟩) (by assumption) ?_
                (try simp only [Act.put, List.setIfInBounds_toArray, List.set_cons_zero, List.set_cons_succ])
                refine wpAnyH_take (i := 7) (v := .bool false) rfl (by kernel_rfl) (by kernel_rfl) (by kernel_rfl) (fun _ _ _ h => h) (Or.inl ⟨by kernel_rfl, fun _ _ => by go_simp⟩) (by assumption) ?_
                (try simp only [Act.put, List.setIfInBounds_toArray, List.set_cons_zero, List.set_cons_succ])
                refine wpAnyH_take (i := 8) (v := .slice (some ⟨b, o, none⟩) xs.length c) rfl (by kernel_rfl) (by kernel_rfl) (by kernel_rfl) (fun _ _ _ h => h) (Or.inl ⟨by kernel_rfl, fun _ _ => by go_simp⟩) (by assumption) ?_
                (try simp only [Act.put, List.setIfInBounds_toArray, List.set_cons_zero, List.set_cons_succ])
                refine wpAnyH_take (i := 9) (v := .int .i64 (k : Int)) rfl (by kernel_rfl) (by kernel_rfl) (by kernel_rfl) (fun _ _ _ h => h) (Or.inl ⟨by kernel_rfl, fun _ _ => by go_simp⟩) (by assumption) ?_
                (try simp only [Act.put, List.setIfInBounds_toArray, List.set_cons_zero, List.set_cons_succ])
                refine wpAnyH_take (i := 10) (v := .pointer (some ⟨b, o + k * 3, none⟩)) rfl (by kernel_rfl) (by kernel_rfl) (by kernel_rfl) (fun _ _ _ h => h) (Or.inl ⟨by kernel_rfl, fun _ _ => by go_simp⟩) (by assumption) ?_
                (try simp only [Act.put, List.setIfInBounds_toArray, List.set_cons_zero, List.set_cons_succ])
                refine wpAnyH_take (i := 11) (v := .pointer (some ⟨b, o + k * 3 + 1, none⟩)) rfl (by kernel_rfl) (by kernel_rfl) (by kernel_rfl) (fun _ _ _ h => h) (Or.inl ⟨by kernel_rfl, fun _ _ => by go_simp⟩) (by assumption) ?_
                (try simp only [Act.put, List.setIfInBounds_toArray, List.set_cons_zero, List.set_cons_succ])
                refine wpAnyH_take (i := 12) (v := .agg #[.int .i64 e.2.1, .slice Bm m d]) rfl (by kernel_rfl) (by kernel_rfl) (by kernel_rfl) (fun _ _ _ h => h) (Or.inl ⟨by kernel_rfl, fun wv hSw => by (obtain ⟨hS0, hS1, hS2, hS3, hS4⟩ := hSw); go_simp⟩) (by assumption) ?_
                (try simp only [Act.put, List.setIfInBounds_toArray, List.set_cons_zero, List.set_cons_succ])
                refine wpAnyH_ready (rs := [13]) (by kernel_rfl) (by simp) ?_
                refine AllReadyH.cons rfl (fun K hK => ?_) AllReadyH.nil
                go_simp
                refine (HT1 _ Tk).mono ?_
                rintro e' wn ⟨rfl, hbn⟩
                replace Tk := below_next Tk hbn rfl
                go_wp2_with fail
                refine hK.out _ _ ⟨keepc Tk cc0, keepc Tk cc1, keepc Tk cc2, keepc Tk d1, keepc Tk d2⟩ (fun hHeld2 => ?_)
                clear hK K hHeld1
                (try simp only [Act.put, List.setIfInBounds_toArray, List.set_cons_zero, List.set_cons_succ])
                refine wpAnyH_take (i := 14) (v := .bool false) rfl (by kernel_rfl) (by kernel_rfl) (by kernel_rfl) (fun _ _ _ h => h) (Or.inl ⟨by kernel_rfl, fun _ _ => by go_simp⟩) (by assumption) ?_
                (try simp only [Act.put, List.setIfInBounds_toArray, List.set_cons_zero, List.set_cons_succ])
                refine wpAnyH_take (i := 15) (v := .bool false) rfl (by kernel_rfl) (by kernel_rfl) (by kernel_rfl) (fun _ _ _ h => h) (Or.inl ⟨by kernel_rfl, fun _ _ => by go_simp⟩) (by assumption) ?_
                (try simp only [Act.put, List.setIfInBounds_toArray, List.set_cons_zero, List.set_cons_succ])
                refine wpAnyH_take (i := 16) (v := .bool false) rfl (by kernel_rfl) (by kernel_rfl) (by kernel_rfl) (fun _ _ _ h => h) (Or.inl ⟨by kernel_rfl, fun _ _ => by go_simp⟩) (by assumption) ?_
                (try simp only [Act.put, List.setIfInBounds_toArray, List.set_cons_zero, List.set_cons_succ])
                refine wpAnyH_take (i := 17) (v := .int .i64 (k : Int)) rfl (by kernel_rfl) (by kernel_rfl) (by kernel_rfl) (fun _ _ _ h => h) (Or.inl ⟨by kernel_rfl, fun _ _ => by go_simp⟩) (by assumption) ?_
                (try simp only [Act.put, List.setIfInBounds_toArray, List.set_cons_zero, List.set_cons_succ])
                refine wpAnyH_take (i := 18) (v := .bool true) rfl (by kernel_rfl) (by kernel_rfl) (by kernel_rfl) (fun _ _ _ h => h) (Or.inl ⟨by kernel_rfl, fun _ _ => by go_simp⟩) (by assumption) ?_
                (try simp only [Act.put, List.setIfInBounds_toArray, List.set_cons_zero, List.set_cons_succ])
                refine wpAnyH_take (i := 19) (v := .bool true) rfl (by kernel_rfl) (by kernel_rfl) (by kernel_rfl) (fun _ _ _ h => h) (Or.inl ⟨by kernel_rfl, fun _ _ => by go_simp⟩) (by assumption) ?_
                (try simp only [Act.put, List.setIfInBounds_toArray, List.set_cons_zero, List.set_cons_succ])
                refine wpAnyH_take (i := 20) (v := .slice (some ⟨b, o, none⟩) xs.length c) rfl (by kernel_rfl) (by kernel_rfl) (by kernel_rfl) (fun _ _ _ h => h) (Or.inl ⟨by kernel_rfl, fun _ _ => by go_simp⟩) (by assumption) ?_
                (try simp only [Act.put, List.setIfInBounds_toArray, List.set_cons_zero, List.set_cons_succ])
                refine wpAnyH_take (i := 21) (v := .int .i64 (k : Int)) rfl (by kernel_rfl) (by kernel_rfl) (by kernel_rfl) (fun _ _ _ h => h) (Or.inl ⟨by kernel_rfl, fun _ _ => by go_simp⟩) (by assumption) ?_
                (try simp only [Act.put, List.setIfInBounds_toArray, List.set_cons_zero, List.set_cons_succ])
                refine wpAnyH_take (i := 22) (v := .int .i64 ((k : Int) - 1)) rfl (by kernel_rfl) (by kernel_rfl) (by kernel_rfl) (fun _ _ _ h => h) (Or.inl ⟨by kernel_rfl, fun _ _ => by go_simp⟩) (by assumption) ?_
                (try simp only [Act.put, List.setIfInBounds_toArray, List.set_cons_zero, List.set_cons_succ])
                refine wpAnyH_take (i := 23) (v := .pointer (some ⟨b, o + (k - 1) * 3, none⟩)) rfl (by kernel_rfl) (by kernel_rfl) (by kernel_rfl) (fun _ _ _ h => h) (Or.inl ⟨by kernel_rfl, fun _ _ => by go_simp⟩) (by assumption) ?_
                (try simp only [Act.put, List.setIfInBounds_toArray, List.set_cons_zero, List.set_cons_succ])
                refine wpAnyH_take (i := 24) (v := .pointer (some ⟨b, o + (k - 1) * 3 + 1, none⟩)) rfl (by kernel_rfl) (by kernel_rfl) (by kernel_rfl) (fun _ _ _ h => h) (Or.inl ⟨by kernel_rfl, fun _ _ => by go_simp⟩) (by assumption) ?_
                (try simp only [Act.put, List.setIfInBounds_toArray, List.set_cons_zero, List.set_cons_succ])
                refine wpAnyH_take (i := 25) (v := .agg #[.int .i64 p.2.1, .slice Bp mp dp]) rfl (by kernel_rfl) (by kernel_rfl) (by kernel_rfl) (fun _ _ _ h => h) (Or.inl ⟨by kernel_rfl, fun wv hSw => by (obtain ⟨hS0, hS1, hS2, hS3, hS4⟩ := hSw); go_simp⟩) (by assumption) ?_
                (try simp only [Act.put, List.setIfInBounds_toArray, List.set_cons_zero, List.set_cons_succ])
                refine wpAnyH_take (i := 26) (v := .slice (some ⟨b, o, none⟩) xs.length c) rfl (by kernel_rfl) (by kernel_rfl) (by kernel_rfl) (fun _ _ _ h => h) (Or.inl ⟨by kernel_rfl, fun _ _ => by go_simp⟩) (by assumption) ?_
                (try simp only [Act.put, List.setIfInBounds_toArray, List.set_cons_zero, List.set_cons_succ])
                refine wpAnyH_take (i := 27) (v := .int .i64 (k : Int)) rfl (by kernel_rfl) (by kernel_rfl) (by kernel_rfl) (fun _ _ _ h => h) (Or.inl ⟨by kernel_rfl, fun _ _ => by go_simp⟩) (by assumption) ?_
                (try simp only [Act.put, List.setIfInBounds_toArray, List.set_cons_zero, List.set_cons_succ])
                refine wpAnyH_take (i := 28) (v := .pointer (some ⟨b, o + k * 3, none⟩)) rfl (by kernel_rfl) (by kernel_rfl) (by kernel_rfl) (fun _ _ _ h => h) (Or.inl ⟨by kernel_rfl, fun _ _ => by go_simp⟩) (by assumption) ?_
                (try simp only [Act.put, List.setIfInBounds_toArray, List.set_cons_zero, List.set_cons_succ])
                refine wpAnyH_take (i := 29) (v := .pointer (some ⟨b, o + k * 3 + 1, none⟩)) rfl (by kernel_rfl) (by kernel_rfl) (by kernel_rfl) (fun _ _ _ h => h) (Or.inl ⟨by kernel_rfl, fun _ _ => by go_simp⟩) (by assumption) ?_
                (try simp only [Act.put, List.setIfInBounds_toArray, List.set_cons_zero, List.set_cons_succ])
                refine wpAnyH_take (i := 30) (v := .agg #[.int .i64 e.2.1, .slice Bm m d]) rfl (by kernel_rfl) (by kernel_rfl) (by kernel_rfl) (fun _ _ _ h => h) (Or.inl ⟨by kernel_rfl, fun wv hSw => by (obtain ⟨hS0, hS1, hS2, hS3, hS4⟩ := hSw); go_simp⟩) (by assumption) ?_
                (try simp only [Act.put, List.setIfInBounds_toArray, List.set_cons_zero, List.set_cons_succ])
                refine wpAnyH_ready (rs := [31]) (by kernel_rfl) (by simp) ?_
                refine AllReadyH.cons rfl (fun K hK => ?_) AllReadyH.nil
                go_simp
                refine (HC1 _ Tk).mono ?_
                rintro e' wn ⟨rfl, hbn⟩
                replace Tk := below_next Tk hbn rfl
                go_wp2_with fail
                refine hK.out _ _ ⟨keepc Tk cc0, keepc Tk cc1, keepc Tk cc2, keepc Tk d1, keepc Tk d2⟩ (fun hHeld3 => ?_)
                clear hK K hHeld2
                (try simp only [Act.put, List.setIfInBounds_toArray, List.set_cons_zero, List.set_cons_succ])
                refine wpAnyH_take (i := 32) (v := .bool (!q)) rfl (by kernel_rfl) (by kernel_rfl) (by kernel_rfl) (fun _ _ _ h => h) (Or.inl ⟨by kernel_rfl, fun _ _ => by go_simp⟩) (by assumption) ?_
                (try simp only [Act.put, List.setIfInBounds_toArray, List.set_cons_zero, List.set_cons_succ])
                refine wpAnyH_take (i := 33) (v := .bool (!q)) rfl (by kernel_rfl) (by kernel_rfl) (by kernel_rfl) (fun _ _ _ h => h) (Or.inl ⟨by kernel_rfl, fun _ _ => by go_simp⟩) (by assumption) ?_
                (try simp only [Act.put, List.getElem_toArray, List.getElem_cons_zero, List.getElem_cons_succ, List.setIfInBounds_toArray, List.set_cons_zero, List.set_cons_succ])
                refine wpAnyH_take (i := 34) (v := .bool (!q)) rfl (by kernel_rfl) (by kernel_rfl) (by kernel_rfl) (fun _ _ _ h => h) (Or.inl ⟨by kernel_rfl, fun _ _ => by go_simp⟩) (by assumption) ?_
                (try simp only [Act.put, List.getElem_toArray, List.getElem_cons_zero, List.getElem_cons_succ, List.setIfInBounds_toArray, List.set_cons_zero, List.set_cons_succ])
                refine wpAnyH_done (by kernel_rfl) ?_ _
                all_goals
                  go_wp2_with fail
                  go_meet
                  exact ⟨rfl, by first | exact Tk | exact Below.drew Tk⟩
          case rest =>
            obtain ⟨rfl, hTc⟩ := hcut
            obtain ⟨w5, HWC⟩ : ∃ wq : World, wq = wc := ⟨_, rfl⟩
            subst HWC
            have T5 := below_next hTw hTc rfl
            rcases q with _ | _
            · go_wp2_with fail
              go_ret
              exact ⟨ret_bool (HH.out.stop HD.out (by rw [HOK2.out, Bool.and_false, Bool.and_false])), T5⟩
            · have hr3 : r3 = true := by
                have := HQ.out
                rcases r3 with _ | _
                · exact absurd this (by simp)
                · rfl
              subst hr3
              have hsm := small_iff.1 HR3.out
              have hlb : lastB pre e = true := HQ.out
              have HLB := Lib.hid hlb
              have HSN : Hid (∀ e' ∈ xs.take (k + 1), SmallP e'.2) := by
                show ∀ e' ∈ xs.take (k + 1), SmallP e'.2
                intro e' he'
                rw [take_snoc HX.out, List.mem_append] at he'
                rcases he' with h1 | h1
                · exact HST.out e' h1
                · rw [List.mem_singleton] at h1
                  subst h1
                  exact hsm
              have HRX : Hid (InR (canA e.2).1) := small_R (canA_small hsm)
              have HSX : Hid (SmallP (canA e.2)) := canA_small hsm
              have hkk : (k : Int) ≤ 9223372036854775807 := by omega
              clear hlb HT1 Tk
              go_wp2_with fail
              go_loopw [4] (fun j wj => ∃ jn : Nat, jn ≤ k ∧ j = .int .i64 jn ∧ hasS e.1 ((xs.take jn).map (·.1)) = false ∧ Below w.heap.size w wj) (fun j _ => k - (intOf j).toNat)
              case atStart => exact ⟨0, Nat.zero_le _, rfl, rfl, T5⟩
              case round =>
                obtain ⟨j, hj, rfl, hno, hTj⟩ := hrel
                have HNO := Lib.hid hno
                clear hno
                by_cases hjk : j < k
                · have hj0 : (0 : Int) ≤ (j : Int) := by omega
                  have hj1 : (j : Int) < (k : Int) := by omega
                  have hj2 : (j : Int) < (xs.length : Int) := by omega
                  obtain ⟨b', o', vs', f, hA', -, hc', hr', -, hxf⟩ := h.at (k := j) (by omega)
                  have hA2 := hA'
                  simp only [Option.some.injEq, Addr.mk.injEq, and_true] at hA2
                  obtain ⟨rfl, rfl⟩ := hA2
                  obtain ⟨Bf, mf, df, rfl, -, -, -⟩ := rdEntry hr'
                  obtain ⟨b2, o2, vs2, e2, hA3, -, hc2, hr2, -, hxe2⟩ := h.at hlt
                  simp only [Option.some.injEq, Addr.mk.injEq, and_true] at hA3
                  obtain ⟨rfl, rfl⟩ := hA3
                  obtain rfl : e2 = e := by
                    have := HX.out
                    rw [hxe2] at this
                    exact Option.some.inj this
                  obtain ⟨B3, m3, d3, rfl, -, -, -⟩ := rdEntry hr2
                  have d0 : wr.cell? ⟨b, o + j * 3, none⟩ = some (.string f.1) := keepc hTj (hc' 0 _ rfl)
                  have d1 : wr.cell? ⟨b, o + k * 3, none⟩ = some (.string e2.1) := keepc hTj (hc2 0 _ rfl)
                  have HXF := Lib.hid hxf
                  clear hc' hc2 hA' hxf hxe2
                  by_cases he : f.1 = e2.1
                  · have hd1 : (f.1.toList == e2.1.toList) = true := eqq_str (eqC_iff.2 he)
                    have HE := Lib.hid he
                    clear he
                    go_upto_region 11 with fail
                    go_quiet (fail)
                    go_wp2_with fail
                    go_ret
                    exact ⟨ret_bool (HH.out.stop HD.out (by rw [HOK2.out, hasS_hit hjk HXF.out HE.out]; rfl)), below_drewN hTj _⟩
                  · have hd1 : (f.1.toList == e2.1.toList) = false := eqq_str (eqC_no.2 he)
                    have HE := Lib.hid he
                    clear he
                    go_upto_region 11 with fail
                    go_quiet (fail)
                    go_wp2_with fail
                    go_roundw
                    case rel => exact ⟨j + 1, by omega, by go_num, hasS_step HNO.out HXF.out HE.out, below_drewN hTj _⟩
                    case measure => simp [intOf]; omega
                · obtain rfl : j = k := by omega
                  have hjk' : ¬ (j : Int) < (j : Int) := by omega
                  obtain ⟨b2, o2, vs2, e2, hA3, -, hc2, hr2, -, hxe2⟩ := h.at hlt
                  simp only [Option.some.injEq, Addr.mk.injEq, and_true] at hA3
                  obtain ⟨rfl, rfl⟩ := hA3
                  obtain rfl : e2 = e := by
                    have := HX.out
                    rw [hxe2] at this
                    exact Option.some.inj this
                  obtain ⟨B3, m3, d3, rfl, hsz3, hIn3, hops3⟩ := rdEntry hr2
                  have d1 : wr.cell? ⟨b, o + j * 3 + 1, none⟩ = some (.int .i64 e2.2.1) := keepc hTj (hc2 1 _ rfl)
                  have d2 : wr.cell? ⟨b, o + j * 3 + 2, none⟩ = some (.slice B3 m3 d3) := keepc hTj (hc2 2 _ rfl)
                  have hral3 := mkAlgebra (cOps := d3) hIn3 hops3
                  have HC1 : ∀ wz, Below wr.heap.size wr wz → Calls Try.prog 81 #[.agg #[.int .i64 e2.2.1, .slice B3 m3 d3]] wz (AlgE wz (canA e2.2)) := fun wz hz =>
                    l31Form_any [.int .i64 e2.2.1, .slice B3 m3 d3] e2.2 wz (shAlgebra.stab hral3 (below_next hTj hz rfl).block) hsm
                  obtain ⟨sv, HSV⟩ : ∃ b, Hid (eqC (canA e2.2) e2.2 = b) := ⟨_, rfl⟩
                  have HC2 : ∀ wz v css bls, Below wr.heap.size wr wz → PO 0 wz v (canA e2.2).2 css bls → Calls Try.prog 80 #[.agg #[.int .i64 (canA e2.2).1, v], .agg #[.int .i64 e2.2.1, .slice B3 m3 d3]] wz (Bl wz (.bool sv)) := fun wz v css bls hz hp => by
                    have := l31Same_any [.int .i64 (canA e2.2).1, v] [.int .i64 e2.2.1, .slice B3 m3 d3] (canA e2.2) e2.2 wz (hp.alg HRX.out) (shAlgebra.stab hral3 (below_next hTj hz rfl).block) HSX.out hsm
                    rw [show eqC (canA e2.2) e2.2 = sv from HSV.out] at this
                    exact this
                  have Tk : Below wr.heap.size wr wr := Below.refl _ _
                  clear hc2 hr2 hxe2 hops hops3 cc0 cc1 cc2
                  go_upto_region 13 with fail
                  go_cut [77] (fun v77 wx => v77 = .bool (!sv) ∧ Below wr.heap.size wr wx)
                  case first =>
                    go_region_held3 (fun w' => w'.cell? ⟨b, o + j * 3 + 1, none⟩ = some (.int .i64 e2.2.1) ∧ w'.cell? ⟨b, o + j * 3 + 2, none⟩ = some (.slice B3 m3 d3)) (first | go_keep | exact ⟨keepc Tk d1, keepc Tk d2⟩) (first
                      | (go_at_call 81; (with_reducible refine (HC1 _ ?_).mono ?_); (first | exact Tk | exact Below.drew Tk); rintro e' wn ⟨vv, css, bls, rfl, hPn, hbn⟩; replace Tk := below_next (by first | exact Tk | exact Below.drew Tk) hbn rfl)
                      | (go_at_call 80; refine (HC2 _ _ _ _ (by first | exact Tk | exact Below.drew Tk) (by first | exact hPn.mono (Nat.zero_le _) | exact (hPn.mono (Nat.zero_le _)).next (Below.drew (Below.refl _ _)))).mono ?_; rintro e' wm ⟨rfl, hbm⟩; replace Tk := below_next (by first | exact Tk | exact Below.drew Tk) hbm rfl))
                    all_goals
                      go_wp2_with fail
                      go_meet
                      exact ⟨rfl, by first | exact Tk | exact Below.drew Tk⟩
                  case rest =>
                    obtain ⟨rfl, hTc6⟩ := hcut
                    obtain ⟨w6, HWC⟩ : ∃ wq : World, wq = wc := ⟨_, rfl⟩
                    subst HWC
                    have T6 := below_next hTj hTc6 rfl
                    clear d1 d2 HC1 HC2 Tk
                    rcases sv with _ | _
                    · go_wp2_with fail
                      go_ret
                      exact ⟨ret_bool (HH.out.stop HD.out (by rw [HOK2.out, HSV.out, Bool.false_and, Bool.and_false])), T6⟩
                    · go_wp2_with fail
                      go_roundw
                      case rel => exact ⟨j + 1, by omega, by go_num, HH.out.step HD.out HX.out (by rw [HOK2.out, HSV.out, HNO.out]; rfl), HSN.out, T6⟩
                      case measure => simp [intOf]; omega
      · have hlt' : ¬ (k : Int) < (xs.length : Int) := by omega
        have HH := Lib.hid H
        clear H hS
        go_wp2_with fail
        go_ret
        exact ⟨ret_bool (HH.out.done hn hlt), hTw⟩
  · have hn' : (12 : Int) < (xs.length : Int) := by omega
    go_enter Try.func97, Try.ntmps97
    go_wp2_with fail
    go_ret
    exact ⟨ret_bool (catB_big hn), Below.refl _ _⟩
end Go.Proofs.Ytppnmpeicmlneaa
