/- The walks of the tests on a list of protests. No condition. -/
import Derived.Test.YtabihggfnofcbaaProtB
namespace Go.Proofs.Ytabihggfnofcbaa
open Go Go.RowKit

/-- Protest k stands well: it is one, and it comes behind the one before it. -/
def StandsAt (ps : List Prot) (k : Nat) (h : k < ps.length) : Prop := specOne ps[k] = true ∧ (0 < k → ps[k - 1].id < ps[k].id ∧ ps[k - 1].made ≤ ps[k].made)
def GoodP (ps : List Prot) : Prop := (∀ k (h : k < ps.length), StandsAt ps k h) ∧ ps.length ≤ 10
noncomputable def good (ps : List Prot) : Bool := @decide (GoodP ps) (Classical.propDecidable _)
theorem good_true {ps : List Prot} (h : GoodP ps) : good ps = true := by simp [good, h]
theorem good_false {ps : List Prot} (h : ¬ GoodP ps) : good ps = false := by simp [good, h]
theorem good_iff {ps : List Prot} : good ps = true ↔ GoodP ps := by simp [good]

set_option maxHeartbeats 1000000 in
theorem areProtests_any (ps : List Prot) (v : Value) (w : World) (h : Sl (Flat Prot.lst) 6 w v ps) :
    Calls Try.prog 22 #[v] w fun e w' => e = .returned (.bool (good ps)) ∧ Below w.heap.size w w' := by
  obtain ⟨A, c, rfl, hc, hm, hk⟩ := h.open_
  go_enter Try.func22, Try.ntmps22
  go_wp2
  go_loopw [7] (fun i wr => ∃ k : Nat, k ≤ ps.length ∧ i = .int .i64 k ∧ Hid (∀ j (h : j < ps.length), j < k → StandsAt ps j h) ∧ Below w.heap.size w wr)
    (fun i _ => ps.length - (intOf i).toNat)
  case atStart => exact ⟨0, Nat.zero_le _, rfl, fun j h hj => absurd hj (by omega), Below.refl _ _⟩
  case round =>
    obtain ⟨k, hkl, rfl, HS, hb⟩ := hrel
    by_cases hlt : k < ps.length
    · obtain ⟨b, off, rfl, hat⟩ := flat_at hk (by omega)
      have hr := rangeAt_below (hat k hlt) hb
      have hN := Prot.cellsNew wr ps[k] 25
      by_cases h1 : specOne ps[k] = true
      · by_cases h0 : 0 < k
        · have hlp : k - 1 < ps.length := by omega
          have hP := Prot.cellsOld (rangeAt_below (w' := wr.alloc (.cells #[.int .i64 ps[k].id, .int .i64 ps[k].against, .int .i64 ps[k].by_, .int .i64 ps[k].made, .int .i64 ps[k].state, .int .i64 ps[k].votes] 25)) (rangeAt_below (hat (k - 1) hlp) hb) (Below.alloc (Below.refl _ _) (Nat.le_refl _) _))
          by_cases h2 : ps[k].id ≤ ps[k - 1].id
          · have h2' : decide (ps[k].id ≤ ps[k - 1].id) = true := by simpa using h2
            go_wp2_with (refine Prot.loadImpl rfl _ rfl b (off + k * 6) rfl ps[k] hr ?_)
            refine region_after (by kernel_rfl) (by kernel_rfl) ?_
            repeat (any_goals (first | go_big_quiet_step (((go_at_call 18; exact Calls.after (v := .bool true) _ (isProtest_is ps[k] true h1 _)))) | (refine Prot.qloadImpl rfl _ rfl _ _ rfl ps[k] (Prot.rangeNew _ _ _) ?_) | quiet_step (((go_at_call 18; exact Calls.after (v := .bool true) _ (isProtest_is ps[k] true h1 _))))))
            refine wpQuiet_nil ?_
            intro s
            go_wp2
            go_ret
            exact ⟨ret_bool (good_false (fun hg => by have := hg.1 k hlt; unfold StandsAt at this; omega)).symm, step_ hb (Nat.le_refl _) (step_ (Below.alloc (Below.refl _ _) (Nat.le_refl _) _) (Nat.le_refl _) s.hb)⟩
          · have h2' : decide (ps[k].id ≤ ps[k - 1].id) = false := by simpa using h2
            by_cases h3 : ps[k].made < ps[k - 1].made
            · have h3' : decide (ps[k].made < ps[k - 1].made) = true := by simpa using h3
              go_wp2_with (refine Prot.loadImpl rfl _ rfl b (off + k * 6) rfl ps[k] hr ?_)
              refine region_after (by kernel_rfl) (by kernel_rfl) ?_
              repeat (any_goals (first | go_big_quiet_step (((go_at_call 18; exact Calls.after (v := .bool true) _ (isProtest_is ps[k] true h1 _)))) | (refine Prot.qloadImpl rfl _ rfl _ _ rfl ps[k] (Prot.rangeNew _ _ _) ?_) | quiet_step (((go_at_call 18; exact Calls.after (v := .bool true) _ (isProtest_is ps[k] true h1 _))))))
              refine wpQuiet_nil ?_
              intro s
              go_wp2
              go_ret
              exact ⟨ret_bool (good_false (fun hg => by have := hg.1 k hlt; unfold StandsAt at this; omega)).symm, step_ hb (Nat.le_refl _) (step_ (Below.alloc (Below.refl _ _) (Nat.le_refl _) _) (Nat.le_refl _) s.hb)⟩
            · have h3' : decide (ps[k].made < ps[k - 1].made) = false := by simpa using h3
              go_wp2_with (refine Prot.loadImpl rfl _ rfl b (off + k * 6) rfl ps[k] hr ?_)
              refine region_after (by kernel_rfl) (by kernel_rfl) ?_
              repeat (any_goals (first | go_big_quiet_step (((go_at_call 18; exact Calls.after (v := .bool true) _ (isProtest_is ps[k] true h1 _)))) | (refine Prot.qloadImpl rfl _ rfl _ _ rfl ps[k] (Prot.rangeNew _ _ _) ?_) | quiet_step (((go_at_call 18; exact Calls.after (v := .bool true) _ (isProtest_is ps[k] true h1 _))))))
              refine wpQuiet_nil ?_
              intro s
              go_wp2
              go_roundw
              case rel => exact ⟨k + 1, by omega, by go_num, fun j hj hjk => by
                by_cases e : j < k
                · exact HS.out j hj e
                · obtain rfl : j = k := by omega
                  exact ⟨h1, fun _ => ⟨by omega, by omega⟩⟩, step_ hb (Nat.le_refl _) (step_ (Below.alloc (Below.refl _ _) (Nat.le_refl _) _) (Nat.le_refl _) s.hb)⟩
              case measure => simp [intOf]; omega
        · have h0' : decide (0 < k) = false := by simpa using h0
          go_wp2_with (refine Prot.loadImpl rfl _ rfl b (off + k * 6) rfl ps[k] hr ?_)
          refine region_after (by kernel_rfl) (by kernel_rfl) ?_
          repeat (any_goals (first | go_big_quiet_step (((go_at_call 18; exact Calls.after (v := .bool true) _ (isProtest_is ps[k] true h1 _)))) | (refine Prot.qloadImpl rfl _ rfl _ _ rfl ps[k] (Prot.rangeNew _ _ _) ?_) | quiet_step (((go_at_call 18; exact Calls.after (v := .bool true) _ (isProtest_is ps[k] true h1 _))))))
          refine wpQuiet_nil ?_
          intro s
          go_wp2
          go_roundw
          case rel => exact ⟨k + 1, by omega, by go_num, fun j hj hjk => by
            by_cases e : j < k
            · exact HS.out j hj e
            · obtain rfl : j = k := by omega
              exact ⟨h1, fun h => absurd h h0⟩, step_ hb (Nat.le_refl _) (step_ (Below.alloc (Below.refl _ _) (Nat.le_refl _) _) (Nat.le_refl _) s.hb)⟩
          case measure => simp [intOf]; omega
      · have h1' : specOne ps[k] = false := by simpa using h1
        clear h1
        go_wp2_with (refine Prot.loadImpl rfl _ rfl b (off + k * 6) rfl ps[k] hr ?_)
        refine region_after (by kernel_rfl) (by kernel_rfl) ?_
        repeat (any_goals (first | go_big_quiet_step (((go_at_call 18; exact Calls.after (v := .bool false) _ (isProtest_is ps[k] false h1' _)))) | (refine Prot.qloadImpl rfl _ rfl _ _ rfl ps[k] (Prot.rangeNew _ _ _) ?_) | quiet_step (((go_at_call 18; exact Calls.after (v := .bool false) _ (isProtest_is ps[k] false h1' _))))))
        refine wpQuiet_nil ?_
        intro s
        go_wp2
        go_ret
        exact ⟨ret_bool (good_false (fun hg => by have := hg.1 k hlt; unfold StandsAt at this; rw [h1'] at this; simp at this)).symm, step_ hb (Nat.le_refl _) (step_ (Below.alloc (Below.refl _ _) (Nat.le_refl _) _) (Nat.le_refl _) s.hb)⟩
    · go_wp2
      obtain rfl : k = ps.length := by omega
      go_ret
      refine ⟨ret_bool ?_, hb⟩
      by_cases h10 : ps.length ≤ 10
      · rw [good_true ⟨fun j hj => HS.out j hj hj, h10⟩]; simp; omega
      · rw [good_false (fun hg => h10 hg.2)]; simp; omega
set_option maxHeartbeats 1000000 in
theorem l22Good_any (ps : List Prot) (v : Value) (w : World) (h : Sl (Flat Prot.lst) 6 w v ps) :
    Calls Try.prog 64 #[v] w fun e w' => e = .returned (.bool (good ps)) ∧ Below w.heap.size w w' := by
  obtain ⟨A, c, rfl, hc, hm, hk⟩ := h.open_
  go_enter Try.func64, Try.ntmps64
  go_wp2
  go_loopw [3] (fun i wr => ∃ k : Nat, k ≤ ps.length ∧ i = .int .i64 k ∧ Hid (∀ j (h : j < ps.length), j < k → StandsAt ps j h) ∧ Below w.heap.size w wr)
    (fun i _ => ps.length - (intOf i).toNat)
  case atStart => exact ⟨0, Nat.zero_le _, rfl, fun j h hj => absurd hj (by omega), Below.refl _ _⟩
  case round =>
    obtain ⟨k, hkl, rfl, HS, hb⟩ := hrel
    by_cases hlt : k < ps.length
    · obtain ⟨b, off, rfl, hat⟩ := flat_at hk (by omega)
      have hr := rangeAt_below (hat k hlt) hb
      have hC := Prot.cellsOld hr
      by_cases h1 : specOne ps[k] = true
      · by_cases h0 : 0 < k
        · have hlp : k - 1 < ps.length := by omega
          have hP := Prot.cellsOld (rangeAt_below (hat (k - 1) hlp) hb)
          by_cases h2 : ps[k].id ≤ ps[k - 1].id
          · have h2' : decide (ps[k].id ≤ ps[k - 1].id) = true := by simpa using h2
            go_wp2
            refine region_after (by kernel_rfl) (by kernel_rfl) ?_
            repeat (any_goals (first | go_big_quiet_step (((go_at_call 60; exact Calls.after (v := .bool true) _ (l22One_is ps[k] true h1 _)))) | (refine Prot.qloadImpl rfl _ rfl _ _ rfl ps[k] hr ?_) | quiet_step (((go_at_call 60; exact Calls.after (v := .bool true) _ (l22One_is ps[k] true h1 _))))))
            refine wpQuiet_nil ?_
            intro s
            go_wp2
            go_ret
            exact ⟨ret_bool (good_false (fun hg => by have := hg.1 k hlt; unfold StandsAt at this; omega)).symm, step_ hb (Nat.le_refl _) s.hb⟩
          · have h2' : decide (ps[k].id ≤ ps[k - 1].id) = false := by simpa using h2
            by_cases h3 : ps[k].made < ps[k - 1].made
            · have h3' : decide (ps[k].made < ps[k - 1].made) = true := by simpa using h3
              go_wp2
              refine region_after (by kernel_rfl) (by kernel_rfl) ?_
              repeat (any_goals (first | go_big_quiet_step (((go_at_call 60; exact Calls.after (v := .bool true) _ (l22One_is ps[k] true h1 _)))) | (refine Prot.qloadImpl rfl _ rfl _ _ rfl ps[k] hr ?_) | quiet_step (((go_at_call 60; exact Calls.after (v := .bool true) _ (l22One_is ps[k] true h1 _))))))
              refine wpQuiet_nil ?_
              intro s
              go_wp2
              go_ret
              exact ⟨ret_bool (good_false (fun hg => by have := hg.1 k hlt; unfold StandsAt at this; omega)).symm, step_ hb (Nat.le_refl _) s.hb⟩
            · have h3' : decide (ps[k].made < ps[k - 1].made) = false := by simpa using h3
              go_wp2
              refine region_after (by kernel_rfl) (by kernel_rfl) ?_
              repeat (any_goals (first | go_big_quiet_step (((go_at_call 60; exact Calls.after (v := .bool true) _ (l22One_is ps[k] true h1 _)))) | (refine Prot.qloadImpl rfl _ rfl _ _ rfl ps[k] hr ?_) | quiet_step (((go_at_call 60; exact Calls.after (v := .bool true) _ (l22One_is ps[k] true h1 _))))))
              refine wpQuiet_nil ?_
              intro s
              go_wp2
              go_roundw
              case rel => exact ⟨k + 1, by omega, by go_num, fun j hj hjk => by
                by_cases e : j < k
                · exact HS.out j hj e
                · obtain rfl : j = k := by omega
                  exact ⟨h1, fun _ => ⟨by omega, by omega⟩⟩, step_ hb (Nat.le_refl _) s.hb⟩
              case measure => simp [intOf]; omega
        · have h0' : decide (0 < k) = false := by simpa using h0
          go_wp2
          refine region_after (by kernel_rfl) (by kernel_rfl) ?_
          repeat (any_goals (first | go_big_quiet_step (((go_at_call 60; exact Calls.after (v := .bool true) _ (l22One_is ps[k] true h1 _)))) | (refine Prot.qloadImpl rfl _ rfl _ _ rfl ps[k] hr ?_) | quiet_step (((go_at_call 60; exact Calls.after (v := .bool true) _ (l22One_is ps[k] true h1 _))))))
          refine wpQuiet_nil ?_
          intro s
          go_wp2
          go_roundw
          case rel => exact ⟨k + 1, by omega, by go_num, fun j hj hjk => by
            by_cases e : j < k
            · exact HS.out j hj e
            · obtain rfl : j = k := by omega
              exact ⟨h1, fun h => absurd h h0⟩, step_ hb (Nat.le_refl _) s.hb⟩
          case measure => simp [intOf]; omega
      · have h1' : specOne ps[k] = false := by simpa using h1
        clear h1
        go_wp2
        refine region_after (by kernel_rfl) (by kernel_rfl) ?_
        repeat (any_goals (first | go_big_quiet_step (((go_at_call 60; exact Calls.after (v := .bool false) _ (l22One_is ps[k] false h1' _)))) | (refine Prot.qloadImpl rfl _ rfl _ _ rfl ps[k] hr ?_) | quiet_step (((go_at_call 60; exact Calls.after (v := .bool false) _ (l22One_is ps[k] false h1' _))))))
        refine wpQuiet_nil ?_
        intro s
        go_wp2
        go_ret
        exact ⟨ret_bool (good_false (fun hg => by have := hg.1 k hlt; unfold StandsAt at this; rw [h1'] at this; simp at this)).symm, step_ hb (Nat.le_refl _) s.hb⟩
    · go_wp2
      obtain rfl : k = ps.length := by omega
      go_ret
      refine ⟨ret_bool ?_, hb⟩
      by_cases h10 : ps.length ≤ 10
      · rw [good_true ⟨fun j hj => HS.out j hj hj, h10⟩]; simp; omega
      · rw [good_false (fun hg => h10 hg.2)]; simp; omega

theorem specAreProtests_any (ps : List Prot) (v : Value) (w : World) (h : Sl (Flat Prot.lst) 6 w v ps) :
    Calls Try.prog 20 #[v] w fun e w' => e = .returned (.bool (good ps)) ∧ Below w.heap.size w w' := by
  go_enter Try.func20, Try.ntmps20
  go_wp2_with (go_at_call 64; refine (l22Good_any ps v _ h).mono ?_; rintro e w1 ⟨rfl, hb1⟩)
  go_ret
  exact ⟨rfl, hb1⟩
theorem impl_AreProtests (x : List Prot) (v : Value) (w : World) (h : Sl (Flat Prot.lst) 6 w v x) (_ : ∀ p ∈ x, Prot.ok p) :
    Calls Try.prog 22 #[v] w fun e w' => e = .returned (.bool (good x)) ∧ Below w.heap.size w w' := areProtests_any x v w h
theorem spec_AreProtests (x : List Prot) (v : Value) (w : World) (h : Sl (Flat Prot.lst) 6 w v x) (_ : ∀ p ∈ x, Prot.ok p) :
    Calls Try.prog 20 #[v] w fun e w' => e = .returned (.bool (good x)) ∧ Below w.heap.size w w' := specAreProtests_any x v w h
end Go.Proofs.Ytabihggfnofcbaa
