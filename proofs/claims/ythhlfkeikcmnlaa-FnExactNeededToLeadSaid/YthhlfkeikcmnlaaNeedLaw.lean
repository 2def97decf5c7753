/- The walk of the law FnExactNeededToLead: it returns true. No condition. -/
import Derived.Test.YthhlfkeikcmnlaaNeedK
namespace Go.Proofs.Ythhlfkeikcmnlaa
open Go Go.RowKit

set_option maxHeartbeats 2000000 in
theorem fnExactNeededToLead_walk (x0 : Int) (x1 : Int) (x2 : List Score) (v2 : Value) (x3 : Int) (x4 : Int) (w : World) (hi0 : I64 x0) (hi1 : I64 x1) (h2 : Sl (Flat Score.lst) 3 w v2 x2) (ho2 : ∀ x ∈ x2, Score.ok x) (hi3 : I64 x3) (hi4 : I64 x4) :
    Calls Try.prog 10 #[.int .i64 x0, .int .i64 x1, v2, .int .i64 x3, .int .i64 x4] w fun e w' => e = .returned (.bool true) ∧ Below w.heap.size w w' := by
  by_cases hs2 : x2.length ≤ 1048576
  rotate_left
  · go_enter Try.func10, Try.ntmps10
    go_wp2_with fail
    refine (szScoreS_any x2 v2 _ _ h2 (by omega) (by omega)).mono ?_
    rintro e w' ⟨rfl, rfl⟩
    rw [szLeft_big (by omega)]
    go_wp2_with fail
    go_ret
    exact ⟨rfl, by (repeat (first | exact Below.refl _ _ | assumption | refine Below.drew ?_ | refine Below.alloc ?_ (by first | exact Nat.le_refl _ | (simp; done) | (simp; omega)) _))⟩
  go_enter Try.func10, Try.ntmps10
  go_wp2_with fail
  refine (szScoreS_any x2 v2 _ _ h2 (by omega) (by omega)).mono ?_
  rintro e w' ⟨rfl, rfl⟩
  rw [szLeft_fits (by omega)]
  have hB0 : Below w.heap.size w w := Below.refl _ _
  go_wp2_with fail
  refine (toScoreS_any x2 v2 _ (h2.below (Flat.keeps _) hB0) (by omega)).mono ?_
  rintro e w1 ⟨a2, rfl, row_a2, hb1⟩
  have hB1 := step_ hB0 (Nat.le_refl _) hb1
  go_wp2_with fail
  refine (spec_NeededToLead x0 x1 x2 a2 x3 x4 _ hi0 hi1 (Sl.of_flat row_a2) ho2 hi3 hi4).mono ?_
  rintro e w2 ⟨rfl, hb2⟩
  have hB2 := step_ hB1 (Nat.le_refl _) hb2
  go_wp2_with fail
  refine (toScoreS_any x2 v2 _ (h2.below (Flat.keeps _) hB2) (by omega)).mono ?_
  rintro e w3 ⟨xx2, rfl, row_xx2, hb3⟩
  have hB3 := step_ hB2 (Nat.le_refl _) hb3
  go_wp2_with fail
  refine (impl_NeededToLead x0 x1 x2 xx2 x3 x4 _ hi0 hi1 (Sl.of_flat row_xx2) ho2 hi3 hi4).mono ?_
  rintro e w4 ⟨rfl, hb4⟩
  have hB4 := step_ hB3 (Nat.le_refl _) hb4
  go_wp2_with fail
  refine (toScoreS_any x2 v2 _ (h2.below (Flat.keeps _) hB4) (by omega)).mono ?_
  rintro e w5 ⟨cc2, rfl, row_cc2, hb5⟩
  have hB5 := step_ hB4 (Nat.le_refl _) hb5
  go_wp2_with fail
  refine (eqScoreS_refl x2 _ _ _ (Sl.of_flat ((row_xx2.below hb4).below hb5)) (Sl.of_flat row_cc2)).mono ?_
  rintro e w6 ⟨rfl, hb6⟩
  have hB6 := step_ hB5 (Nat.le_refl _) hb6
  go_wp2_with fail
  go_ret
  exact ⟨rfl, hB6⟩
end Go.Proofs.Ythhlfkeikcmnlaa
