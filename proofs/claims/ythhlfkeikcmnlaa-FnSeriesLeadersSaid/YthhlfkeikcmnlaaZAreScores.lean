/- The walks of the tests on a list of scores. No condition. -/
import Derived.Test.YthhlfkeikcmnlaaZScoreA
namespace Go.Proofs.Ythhlfkeikcmnlaa
open Go Go.RowKit

/-- Score k stands well: it is one, and it comes behind the one before it. -/
def StandsS (n : Int) (ss : List Score) (k : Nat) (h : k < ss.length) : Prop :=
  (inB ss[k].runner 1 999 = true ∧ inB ss[k].race 1 n = true ∧ inB ss[k].points 0 1000 = true) ∧ (0 < k → ss[k - 1].runner < ss[k].runner ∨ (ss[k - 1].runner = ss[k].runner ∧ ss[k - 1].race < ss[k].race))
def GoodS (n m : Int) (ss : List Score) : Prop := inB n 1 8 = true ∧ inB m 1 n = true ∧ (∀ k (h : k < ss.length), StandsS n ss k h) ∧ ss.length ≤ 40
noncomputable def goodS (n m : Int) (ss : List Score) : Bool := @decide (GoodS n m ss) (Classical.propDecidable _)
theorem goodS_true {n m : Int} {ss : List Score} (h : GoodS n m ss) : goodS n m ss = true := by simp [goodS, h]
theorem goodS_false {n m : Int} {ss : List Score} (h : ¬ GoodS n m ss) : goodS n m ss = false := by simp [goodS, h]
theorem goodS_iff {n m : Int} {ss : List Score} : goodS n m ss = true ↔ GoodS n m ss := by simp [goodS]
theorem cmpS_lt {p q : Score} : cmpS p q < 0 ↔ p.runner < q.runner ∨ (p.runner = q.runner ∧ p.race < q.race) := by
  unfold cmpS orI cmpI
  grind
theorem inside_is (n lo hi : Int) (r : Bool) (hr : inB n lo hi = r) (w : World) :
    Calls Try.prog 53 #[.int .i64 n, .int .i64 lo, .int .i64 hi] w fun e w' => e = .returned (.bool r) ∧ w = w' := by subst hr; exact inside_any n lo hi w
theorem isRunnerNumber_is (n : Int) (r : Bool) (hr : inB n 1 999 = r) (w : World) :
    Calls Try.prog 54 #[.int .i64 n] w fun e w' => e = .returned (.bool r) ∧ w = w' := by subst hr; exact isRunnerNumber_any n w
theorem compareScores_is (p q : Score) (r : Int) (hr : cmpS p q = r) (w : World) :
    Calls Try.prog 55 #[p.val, q.val] w fun e w' => e = .returned (.int .i64 r) ∧ Below w.heap.size w w' := by subst hr; exact compareScores_any p q w

set_option maxHeartbeats 2000000 in
theorem areScores_any (n m : Int) (ss : List Score) (v : Value) (w : World) (h : Sl (Flat Score.lst) 3 w v ss) :
    Calls Try.prog 17 #[.int .i64 n, .int .i64 m, v] w fun e w' => e = .returned (.bool (goodS n m ss)) ∧ Below w.heap.size w w' := by
  obtain ⟨A, c, rfl, hc, hm, hk⟩ := h.open_
  by_cases hpre : inB n 1 8 = true ∧ inB m 1 n = true ∧ ss.length ≤ 40
  rotate_left
  · go_enter Try.func17, Try.ntmps17
    go_wp2_with (go_at_call 53; refine (inside_any _ _ _ _).mono ?_; rintro e w' ⟨rfl, rfl⟩)
    all_goals (first | (exfalso; apply hpre; refine ⟨by assumption, by assumption, by omega⟩; done) | (go_ret; exact ⟨ret_bool (by have := goodS_false (fun hg : GoodS n m ss => hpre ⟨hg.1, hg.2.1, hg.2.2.2⟩); simp only [this]; try (simp; omega)), Below.refl _ _⟩))
  obtain ⟨hn1, hn2, hn3⟩ := hpre
  have hn3' : decide ((40 : Int) < (ss.length : Int)) = false := by simp; omega
  go_enter Try.func17, Try.ntmps17
  go_wp2_with (go_at_call 53; refine (inside_any _ _ _ _).mono ?_; rintro e w' ⟨rfl, rfl⟩)
  go_loopw [25] (fun i wr => ∃ k : Nat, k ≤ ss.length ∧ i = .int .i64 k ∧ Hid (∀ j (h : j < ss.length), j < k → StandsS n ss j h) ∧ Below w.heap.size w wr)
    (fun i _ => ss.length - (intOf i).toNat)
  case atStart => exact ⟨0, Nat.zero_le _, rfl, fun j h hj => absurd hj (by omega), Below.refl _ _⟩
  case round =>
    obtain ⟨k, hkl, rfl, HS, hb⟩ := hrel
    by_cases hlt : k < ss.length
    · obtain ⟨b, off, rfl, hat⟩ := flat_at hk (by omega)
      have hr := rangeAt_below (hat k hlt) hb
      have hN := Score.cellsNew wr ss[k] 33
      by_cases h1 : inB ss[k].runner 1 999 = true
      · by_cases h2 : inB ss[k].race 1 n = true
        · by_cases h3 : inB ss[k].points 0 1000 = true
          · by_cases h0 : 0 < k
            · have hlp : k - 1 < ss.length := by omega
              have hprev := rangeAt_below (w' := wr.alloc (.cells #[.int .i64 ss[k].runner, .int .i64 ss[k].race, .int .i64 ss[k].points] 33)) (rangeAt_below (hat (k - 1) hlp) hb) (Below.alloc (Below.refl _ _) (Nat.le_refl _) _)
              obtain ⟨r, hr4⟩ : ∃ r, cmpS ss[k - 1] ss[k] = r := ⟨_, rfl⟩
              have hc4 := Lib.hid (@cmpS_lt ss[k - 1] ss[k])
              rw [hr4] at hc4
              by_cases h4 : 0 ≤ r
              · have h4' : decide (0 ≤ r) = true := by simpa using h4
                go_wp2_with (refine Score.loadImpl rfl _ rfl b (off + k * 3) rfl ss[k] hr ?_)
                refine region_after (by kernel_rfl) (by kernel_rfl) ?_
                repeat (any_goals (first | go_big_quiet_step (((first | (go_at_call 54; exact Calls.after_same (v := .bool true) _ (isRunnerNumber_is _ _ h1 _)) | (go_at_call 55; exact Calls.after (v := .int .i64 r) _ (compareScores_is ss[k - 1] ss[k] r hr4 _)) | (go_at_call 53; first | exact Calls.after_same (v := .bool true) _ (inside_is _ _ _ _ (by with_reducible exact h2) _) | exact Calls.after_same (v := .bool true) _ (inside_is _ _ _ _ (by with_reducible exact h3) _))))) | (refine Score.qloadImpl rfl _ rfl b (off + (k - 1) * 3) (by go_num) ss[k - 1] hprev ?_) | (refine Score.qloadImpl rfl _ rfl _ _ rfl ss[k] (Score.rangeNew _ _ _) ?_) | quiet_step (((first | (go_at_call 54; exact Calls.after_same (v := .bool true) _ (isRunnerNumber_is _ _ h1 _)) | (go_at_call 55; exact Calls.after (v := .int .i64 r) _ (compareScores_is ss[k - 1] ss[k] r hr4 _)) | (go_at_call 53; first | exact Calls.after_same (v := .bool true) _ (inside_is _ _ _ _ (by with_reducible exact h2) _) | exact Calls.after_same (v := .bool true) _ (inside_is _ _ _ _ (by with_reducible exact h3) _)))))))
                refine wpQuiet_nil ?_
                intro s
                go_wp2
                go_ret
                exact ⟨ret_bool (goodS_false (fun hg => by have := hg.2.2.1 k hlt; unfold StandsS at this; exact absurd (hc4.out.2 (this.2 h0)) (by omega))).symm, step_ hb (Nat.le_refl _) (step_ (Below.alloc (Below.refl _ _) (Nat.le_refl _) _) (Nat.le_refl _) s.hb)⟩
              · have h4' : decide (0 ≤ r) = false := by simpa using h4
                go_wp2_with (refine Score.loadImpl rfl _ rfl b (off + k * 3) rfl ss[k] hr ?_)
                refine region_after (by kernel_rfl) (by kernel_rfl) ?_
                repeat (any_goals (first | go_big_quiet_step (((first | (go_at_call 54; exact Calls.after_same (v := .bool true) _ (isRunnerNumber_is _ _ h1 _)) | (go_at_call 55; exact Calls.after (v := .int .i64 r) _ (compareScores_is ss[k - 1] ss[k] r hr4 _)) | (go_at_call 53; first | exact Calls.after_same (v := .bool true) _ (inside_is _ _ _ _ (by with_reducible exact h2) _) | exact Calls.after_same (v := .bool true) _ (inside_is _ _ _ _ (by with_reducible exact h3) _))))) | (refine Score.qloadImpl rfl _ rfl b (off + (k - 1) * 3) (by go_num) ss[k - 1] hprev ?_) | (refine Score.qloadImpl rfl _ rfl _ _ rfl ss[k] (Score.rangeNew _ _ _) ?_) | quiet_step (((first | (go_at_call 54; exact Calls.after_same (v := .bool true) _ (isRunnerNumber_is _ _ h1 _)) | (go_at_call 55; exact Calls.after (v := .int .i64 r) _ (compareScores_is ss[k - 1] ss[k] r hr4 _)) | (go_at_call 53; first | exact Calls.after_same (v := .bool true) _ (inside_is _ _ _ _ (by with_reducible exact h2) _) | exact Calls.after_same (v := .bool true) _ (inside_is _ _ _ _ (by with_reducible exact h3) _)))))))
                refine wpQuiet_nil ?_
                intro s
                go_wp2
                go_roundw
                case rel => exact ⟨k + 1, by omega, by go_num, fun j hj hjk => by
                  by_cases e : j < k
                  · exact HS.out j hj e
                  · obtain rfl : j = k := by omega
                    exact ⟨⟨h1, h2, h3⟩, fun _ => hc4.out.1 (by omega)⟩, step_ hb (Nat.le_refl _) (step_ (Below.alloc (Below.refl _ _) (Nat.le_refl _) _) (Nat.le_refl _) s.hb)⟩
                case measure => simp [intOf]; omega
            · have h0' : decide (0 < k) = false := by simpa using h0
              go_wp2_with (refine Score.loadImpl rfl _ rfl b (off + k * 3) rfl ss[k] hr ?_)
              refine region_after (by kernel_rfl) (by kernel_rfl) ?_
              repeat (any_goals (first | go_big_quiet_step (((first | (go_at_call 54; exact Calls.after_same (v := .bool true) _ (isRunnerNumber_is _ _ h1 _)) | (go_at_call 53; first | exact Calls.after_same (v := .bool true) _ (inside_is _ _ _ _ (by with_reducible exact h2) _) | exact Calls.after_same (v := .bool true) _ (inside_is _ _ _ _ (by with_reducible exact h3) _))))) | (refine Score.qloadImpl rfl _ rfl _ _ rfl ss[k] (Score.rangeNew _ _ _) ?_) | quiet_step (((first | (go_at_call 54; exact Calls.after_same (v := .bool true) _ (isRunnerNumber_is _ _ h1 _)) | (go_at_call 53; first | exact Calls.after_same (v := .bool true) _ (inside_is _ _ _ _ (by with_reducible exact h2) _) | exact Calls.after_same (v := .bool true) _ (inside_is _ _ _ _ (by with_reducible exact h3) _)))))))
              refine wpQuiet_nil ?_
              intro s
              go_wp2
              go_roundw
              case rel => exact ⟨k + 1, by omega, by go_num, fun j hj hjk => by
                by_cases e : j < k
                · exact HS.out j hj e
                · obtain rfl : j = k := by omega
                  exact ⟨⟨h1, h2, h3⟩, fun h => absurd h h0⟩, step_ hb (Nat.le_refl _) (step_ (Below.alloc (Below.refl _ _) (Nat.le_refl _) _) (Nat.le_refl _) s.hb)⟩
              case measure => simp [intOf]; omega
          · have h3 : inB ss[k].points 0 1000 = false := by simpa using h3
            go_wp2_with (refine Score.loadImpl rfl _ rfl b (off + k * 3) rfl ss[k] hr ?_)
            refine region_after (by kernel_rfl) (by kernel_rfl) ?_
            repeat (any_goals (first | go_big_quiet_step (((first | (go_at_call 54; exact Calls.after_same (v := .bool true) _ (isRunnerNumber_is _ _ h1 _)) | (go_at_call 53; first | exact Calls.after_same (v := .bool true) _ (inside_is _ _ _ _ (by with_reducible exact h2) _) | exact Calls.after_same (v := .bool false) _ (inside_is _ _ _ _ (by with_reducible exact h3) _))))) | (refine Score.qloadImpl rfl _ rfl _ _ rfl ss[k] (Score.rangeNew _ _ _) ?_) | quiet_step (((first | (go_at_call 54; exact Calls.after_same (v := .bool true) _ (isRunnerNumber_is _ _ h1 _)) | (go_at_call 53; first | exact Calls.after_same (v := .bool true) _ (inside_is _ _ _ _ (by with_reducible exact h2) _) | exact Calls.after_same (v := .bool false) _ (inside_is _ _ _ _ (by with_reducible exact h3) _)))))))
            refine wpQuiet_nil ?_
            intro s
            go_wp2
            go_ret
            exact ⟨ret_bool (goodS_false (fun hg => by have := hg.2.2.1 k hlt; unfold StandsS at this; rw [h3] at this; simp at this)).symm, step_ hb (Nat.le_refl _) (step_ (Below.alloc (Below.refl _ _) (Nat.le_refl _) _) (Nat.le_refl _) s.hb)⟩
        · have h2 : inB ss[k].race 1 n = false := by simpa using h2
          go_wp2_with (refine Score.loadImpl rfl _ rfl b (off + k * 3) rfl ss[k] hr ?_)
          refine region_after (by kernel_rfl) (by kernel_rfl) ?_
          repeat (any_goals (first | go_big_quiet_step (((first | (go_at_call 54; exact Calls.after_same (v := .bool true) _ (isRunnerNumber_is _ _ h1 _)) | (go_at_call 53; exact Calls.after_same (v := .bool false) _ (inside_is _ _ _ _ (by with_reducible exact h2) _))))) | (refine Score.qloadImpl rfl _ rfl _ _ rfl ss[k] (Score.rangeNew _ _ _) ?_) | quiet_step (((first | (go_at_call 54; exact Calls.after_same (v := .bool true) _ (isRunnerNumber_is _ _ h1 _)) | (go_at_call 53; exact Calls.after_same (v := .bool false) _ (inside_is _ _ _ _ (by with_reducible exact h2) _)))))))
          refine wpQuiet_nil ?_
          intro s
          go_wp2
          go_ret
          exact ⟨ret_bool (goodS_false (fun hg => by have := hg.2.2.1 k hlt; unfold StandsS at this; rw [h2] at this; simp at this)).symm, step_ hb (Nat.le_refl _) (step_ (Below.alloc (Below.refl _ _) (Nat.le_refl _) _) (Nat.le_refl _) s.hb)⟩
      · have h1 : inB ss[k].runner 1 999 = false := by simpa using h1
        go_wp2_with (refine Score.loadImpl rfl _ rfl b (off + k * 3) rfl ss[k] hr ?_)
        refine region_after (by kernel_rfl) (by kernel_rfl) ?_
        repeat (any_goals (first | go_big_quiet_step ((((go_at_call 54; exact Calls.after_same (v := .bool false) _ (isRunnerNumber_is _ _ h1 _))))) | (refine Score.qloadImpl rfl _ rfl _ _ rfl ss[k] (Score.rangeNew _ _ _) ?_) | quiet_step ((((go_at_call 54; exact Calls.after_same (v := .bool false) _ (isRunnerNumber_is _ _ h1 _)))))))
        refine wpQuiet_nil ?_
        intro s
        go_wp2
        go_ret
        exact ⟨ret_bool (goodS_false (fun hg => by have := hg.2.2.1 k hlt; unfold StandsS at this; rw [h1] at this; simp at this)).symm, step_ hb (Nat.le_refl _) (step_ (Below.alloc (Below.refl _ _) (Nat.le_refl _) _) (Nat.le_refl _) s.hb)⟩
    · go_wp2
      obtain rfl : k = ss.length := by omega
      go_ret
      exact ⟨ret_bool (goodS_true ⟨hn1, hn2, fun j hj => HS.out j hj hj, hn3⟩).symm, hb⟩
set_option maxHeartbeats 2000000 in
theorem l20Good_any (n m : Int) (ss : List Score) (v : Value) (w : World) (h : Sl (Flat Score.lst) 3 w v ss) :
    Calls Try.prog 52 #[.int .i64 n, .int .i64 m, v] w fun e w' => e = .returned (.bool (goodS n m ss)) ∧ Below w.heap.size w w' := by
  obtain ⟨A, c, rfl, hc, hm, hk⟩ := h.open_
  by_cases hpre : inB n 1 8 = true ∧ inB m 1 n = true
  rotate_left
  · go_enter Try.func52, Try.ntmps52
    go_wp2_with (go_at_call 63; refine (l1In_any _ _ _ _).mono ?_; rintro e w' ⟨rfl, rfl⟩)
    all_goals (first | (exfalso; apply hpre; refine ⟨by first | assumption | (simpa using (by assumption : (!inB n 1 8) = false)), by first | assumption | (simpa using (by assumption : (!inB m 1 n) = false))⟩; done) | (go_ret; exact ⟨ret_bool (by have := goodS_false (fun hg : GoodS n m ss => hpre ⟨hg.1, hg.2.1⟩); simp only [this]), Below.refl _ _⟩))
  obtain ⟨hn1, hn2⟩ := hpre
  go_enter Try.func52, Try.ntmps52
  go_wp2_with (go_at_call 63; refine (l1In_any _ _ _ _).mono ?_; rintro e w' ⟨rfl, rfl⟩)
  go_loopw [7] (fun i wr => ∃ k : Nat, k ≤ ss.length ∧ i = .int .i64 k ∧ Hid (∀ j (h : j < ss.length), j < k → StandsS n ss j h) ∧ Below w.heap.size w wr)
    (fun i _ => ss.length - (intOf i).toNat)
  case atStart => exact ⟨0, Nat.zero_le _, rfl, fun j h hj => absurd hj (by omega), Below.refl _ _⟩
  case round =>
    obtain ⟨k, hkl, rfl, HS, hb⟩ := hrel
    by_cases hlt : k < ss.length
    · obtain ⟨b, off, rfl, hat⟩ := flat_at hk (by omega)
      have hr := rangeAt_below (hat k hlt) hb
      by_cases hok : inB ss[k].runner 1 999 = true ∧ inB ss[k].race 1 n = true ∧ inB ss[k].points 0 1000 = true
      rotate_left
      · go_wp2_with (first | (go_at_call 63; refine (l1In_any _ _ _ _).mono ?_; rintro e w' ⟨rfl, rfl⟩) | ((with_reducible refine at_load_ 33 ?_); refine Score.loadImpl rfl _ rfl b (off + k * 3) rfl ss[k] hr ?_))
        all_goals (first | (go_ret; exact ⟨ret_bool (goodS_false (fun hg => hok (hg.2.2.1 k hlt).1)).symm, (step_ hb (Nat.le_refl _) (by (repeat (first | exact Below.refl _ _ | assumption | refine Below.drew ?_ | refine Below.alloc ?_ (by first | exact Nat.le_refl _ | (simp; done) | (simp; omega)) _))))⟩) | (exfalso; apply hok; refine ⟨by assumption, by assumption, by first | assumption | (simpa using (by assumption : (!inB ss[k].points 0 1000) = false))⟩))
      obtain ⟨h1, h2, h3⟩ := hok
      have h3' : (!inB ss[k].points 0 1000) = false := by simp [h3]
      by_cases h0 : 0 < k
      · have h0' : decide (0 < k) = true := by simpa using h0
        have hlp : k - 1 < ss.length := by omega
        have hN := Score.cellsNew wr ss[k] 33
        have hP := Score.cellsOld (rangeAt_below (w' := wr.alloc (.cells #[.int .i64 ss[k].runner, .int .i64 ss[k].race, .int .i64 ss[k].points] 33)) (rangeAt_below (hat (k - 1) hlp) hb) (Below.alloc (Below.refl _ _) (Nat.le_refl _) _))
        by_cases h4 : ss[k].runner < ss[k - 1].runner
        · have h4' : decide (ss[k].runner < ss[k - 1].runner) = true := by simpa using h4
          go_wp2_with (first | (go_at_call 63; refine (l1In_any _ _ _ _).mono ?_; rintro e w' ⟨rfl, rfl⟩) | ((with_reducible refine at_load_ 33 ?_); refine Score.loadImpl rfl _ rfl b (off + k * 3) rfl ss[k] hr ?_))
          refine region_after (by kernel_rfl) (by kernel_rfl) ?_
          repeat (any_goals (first | go_big_quiet_step (fail) | (fail) | quiet_step (fail)))
          refine wpQuiet_nil ?_
          intro s
          go_wp2
          go_ret
          exact ⟨ret_bool (goodS_false (fun hg => by have := hg.2.2.1 k hlt; unfold StandsS at this; omega)).symm, (step_ hb (Nat.le_refl _) (step_ (Below.alloc (Below.refl _ _) (Nat.le_refl _) _) (Nat.le_refl _) s.hb))⟩
        · have h4' : decide (ss[k].runner < ss[k - 1].runner) = false := by simpa using h4
          by_cases h5 : ss[k - 1].runner = ss[k].runner
          · have h5' : (ss[k - 1].runner == ss[k].runner) = true := by simpa using h5
            by_cases h6 : ss[k].race ≤ ss[k - 1].race
            · have h6' : decide (ss[k].race ≤ ss[k - 1].race) = true := by simpa using h6
              go_wp2_with (first | (go_at_call 63; refine (l1In_any _ _ _ _).mono ?_; rintro e w' ⟨rfl, rfl⟩) | ((with_reducible refine at_load_ 33 ?_); refine Score.loadImpl rfl _ rfl b (off + k * 3) rfl ss[k] hr ?_))
              refine region_after (by kernel_rfl) (by kernel_rfl) ?_
              repeat (any_goals (first | go_big_quiet_step (fail) | (fail) | quiet_step (fail)))
              refine wpQuiet_nil ?_
              intro s
              go_wp2
              go_ret
              exact ⟨ret_bool (goodS_false (fun hg => by have := hg.2.2.1 k hlt; unfold StandsS at this; omega)).symm, (step_ hb (Nat.le_refl _) (step_ (Below.alloc (Below.refl _ _) (Nat.le_refl _) _) (Nat.le_refl _) s.hb))⟩
            · have h6' : decide (ss[k].race ≤ ss[k - 1].race) = false := by simpa using h6
              go_wp2_with (first | (go_at_call 63; refine (l1In_any _ _ _ _).mono ?_; rintro e w' ⟨rfl, rfl⟩) | ((with_reducible refine at_load_ 33 ?_); refine Score.loadImpl rfl _ rfl b (off + k * 3) rfl ss[k] hr ?_))
              refine region_after (by kernel_rfl) (by kernel_rfl) ?_
              repeat (any_goals (first | go_big_quiet_step (fail) | (fail) | quiet_step (fail)))
              refine wpQuiet_nil ?_
              intro s
              go_wp2
              go_roundw
              case rel => exact ⟨k + 1, by omega, by go_num, fun j hj hjk => by
                by_cases e : j < k
                · exact HS.out j hj e
                · obtain rfl : j = k := by omega
                  exact ⟨⟨h1, h2, h3⟩, fun _ => .inr ⟨h5, by omega⟩⟩, (step_ hb (Nat.le_refl _) (step_ (Below.alloc (Below.refl _ _) (Nat.le_refl _) _) (Nat.le_refl _) s.hb))⟩
              case measure => simp [intOf]; omega
          · have h5' : (ss[k - 1].runner == ss[k].runner) = false := by simpa using h5
            go_wp2_with (first | (go_at_call 63; refine (l1In_any _ _ _ _).mono ?_; rintro e w' ⟨rfl, rfl⟩) | ((with_reducible refine at_load_ 33 ?_); refine Score.loadImpl rfl _ rfl b (off + k * 3) rfl ss[k] hr ?_))
            refine region_after (by kernel_rfl) (by kernel_rfl) ?_
            repeat (any_goals (first | go_big_quiet_step (fail) | (fail) | quiet_step (fail)))
            refine wpQuiet_nil ?_
            intro s
            go_wp2
            go_roundw
            case rel => exact ⟨k + 1, by omega, by go_num, fun j hj hjk => by
              by_cases e : j < k
              · exact HS.out j hj e
              · obtain rfl : j = k := by omega
                exact ⟨⟨h1, h2, h3⟩, fun _ => .inl (by omega)⟩, (step_ hb (Nat.le_refl _) (step_ (Below.alloc (Below.refl _ _) (Nat.le_refl _) _) (Nat.le_refl _) s.hb))⟩
            case measure => simp [intOf]; omega
      · have h0' : decide (0 < k) = false := by simpa using h0
        go_wp2_with (first | (go_at_call 63; refine (l1In_any _ _ _ _).mono ?_; rintro e w' ⟨rfl, rfl⟩) | ((with_reducible refine at_load_ 33 ?_); refine Score.loadImpl rfl _ rfl b (off + k * 3) rfl ss[k] hr ?_))
        refine region_after (by kernel_rfl) (by kernel_rfl) ?_
        repeat (any_goals (first | go_big_quiet_step (fail) | (fail) | quiet_step (fail)))
        refine wpQuiet_nil ?_
        intro s
        go_wp2
        go_roundw
        case rel => exact ⟨k + 1, by omega, by go_num, fun j hj hjk => by
          by_cases e : j < k
          · exact HS.out j hj e
          · obtain rfl : j = k := by omega
            exact ⟨⟨h1, h2, h3⟩, fun h => absurd h h0⟩, (step_ hb (Nat.le_refl _) (step_ (Below.alloc (Below.refl _ _) (Nat.le_refl _) _) (Nat.le_refl _) s.hb))⟩
        case measure => simp [intOf]; omega
    · go_wp2
      obtain rfl : k = ss.length := by omega
      go_ret
      refine ⟨ret_bool ?_, hb⟩
      by_cases h40 : ss.length ≤ 40
      · rw [goodS_true ⟨hn1, hn2, fun j hj => HS.out j hj hj, h40⟩]; simp; omega
      · rw [goodS_false (fun hg => h40 hg.2.2.2)]; simp; omega

theorem specAreScores_any (n m : Int) (ss : List Score) (v : Value) (w : World) (h : Sl (Flat Score.lst) 3 w v ss) :
    Calls Try.prog 15 #[.int .i64 n, .int .i64 m, v] w fun e w' => e = .returned (.bool (goodS n m ss)) ∧ Below w.heap.size w w' := by
  go_enter Try.func15, Try.ntmps15
  go_wp2_with (go_at_call 52; refine (l20Good_any n m ss v _ h).mono ?_; rintro e w1 ⟨rfl, hb1⟩)
  go_ret
  exact ⟨rfl, hb1⟩
theorem impl_AreScores (n m : Int) (x : List Score) (v : Value) (w : World) (_ : I64 n) (_ : I64 m) (h : Sl (Flat Score.lst) 3 w v x) (_ : ∀ p ∈ x, Score.ok p) :
    Calls Try.prog 17 #[.int .i64 n, .int .i64 m, v] w fun e w' => e = .returned (.bool (goodS n m x)) ∧ Below w.heap.size w w' := areScores_any n m x v w h
theorem spec_AreScores (n m : Int) (x : List Score) (v : Value) (w : World) (_ : I64 n) (_ : I64 m) (h : Sl (Flat Score.lst) 3 w v x) (_ : ∀ p ∈ x, Score.ok p) :
    Calls Try.prog 15 #[.int .i64 n, .int .i64 m, v] w fun e w' => e = .returned (.bool (goodS n m x)) ∧ Below w.heap.size w w' := specAreScores_any n m x v w h
end Go.Proofs.Ythhlfkeikcmnlaa
