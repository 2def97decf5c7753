/- The walk of the law FnExactCanPublish: it returns true. No condition. -/
import Derived.Test.YtabihggfnofcbaaCanPublish
namespace Go.Proofs.Ytabihggfnofcbaa
open Go Go.RowKit

set_option maxHeartbeats 2000000 in
theorem fnExactCanPublish_walk (x0 : List Prot) (v0 : Value) (x1 : Int) (w : World) (h0 : Sl (Flat Prot.lst) 6 w v0 x0) (ho0 : ∀ x ∈ x0, Prot.ok x) (hi1 : I64 x1) :
    Calls Try.prog 5 #[v0, .int .i64 x1] w fun e w' => e = .returned (.bool true) ∧ Below w.heap.size w w' := by
  by_cases hs0 : x0.length ≤ 1048576
  rotate_left
  · go_enter Try.func5, Try.ntmps5
    go_wp2_with fail
    refine (szProtestS_any x0 v0 _ _ h0 (by omega) (by omega)).mono ?_
    rintro e w' ⟨rfl, rfl⟩
    rw [szLeft_big (by omega)]
    go_wp2_with fail
    go_ret
    exact ⟨rfl, Below.refl _ _⟩
  go_enter Try.func5, Try.ntmps5
  go_wp2_with fail
  refine (szProtestS_any x0 v0 _ _ h0 (by omega) (by omega)).mono ?_
  rintro e w' ⟨rfl, rfl⟩
  rw [szLeft_fits (by omega)]
  have hB0 : Below w.heap.size w w := Below.refl _ _
  go_wp2_with fail
  refine (toProtestS_any x0 v0 _ (h0.below (Flat.keeps _) hB0) (by omega)).mono ?_
  rintro e w1 ⟨a0, rfl, row_a0, hb1⟩
  have hB1 := step_ hB0 (Nat.le_refl _) hb1
  go_wp2_with fail
  refine (spec_CanPublish x0 a0 x1 _ (Sl.of_flat row_a0) ho0 hi1).mono ?_
  rintro e w2 ⟨rfl, hb2⟩
  have hB2 := step_ hB1 (Nat.le_refl _) hb2
  go_wp2_with fail
  refine (toProtestS_any x0 v0 _ (h0.below (Flat.keeps _) hB2) (by omega)).mono ?_
  rintro e w3 ⟨xx0, rfl, row_xx0, hb3⟩
  have hB3 := step_ hB2 (Nat.le_refl _) hb3
  go_wp2_with fail
  refine (impl_CanPublish x0 xx0 x1 _ (Sl.of_flat row_xx0) ho0 hi1).mono ?_
  rintro e w4 ⟨rfl, hb4⟩
  have hB4 := step_ hB3 (Nat.le_refl _) hb4
  go_wp2_with fail
  refine (toProtestS_any x0 v0 _ (h0.below (Flat.keeps _) hB4) (by omega)).mono ?_
  rintro e w5 ⟨cc0, rfl, row_cc0, hb5⟩
  have hB5 := step_ hB4 (Nat.le_refl _) hb5
  go_wp2_with fail
  refine (eqProtestS_refl x0 _ _ _ (Sl.of_flat ((row_xx0.below hb4).below hb5)) (Sl.of_flat row_cc0)).mono ?_
  rintro e w6 ⟨rfl, hb6⟩
  have hB6 := step_ hB5 (Nat.le_refl _) hb6
  go_wp2_with fail
  go_ret
  exact ⟨rfl, hB6⟩
end Go.Proofs.Ytabihggfnofcbaa
