/- The walk of the law FnExactExpectedRank: it returns true. No condition. -/
import Derived.Test.YtbeonigmcbipeaaXr
namespace Go.Proofs.Ytbeonigmcbipeaa
open Go Go.RowKit

set_option maxHeartbeats 4000000 in
theorem fnExactExpectedRank_walk (x0 : List Pas) (v0 : Value) (x1 : Int) (x2 : Int) (w : World) (h0 : PasS w v0 x0) (_ : ∀ p ∈ x0, p.ok) (hi1 : I64 x1) (hi2 : I64 x2) :
    Calls Try.prog 10 #[v0, .int .i64 x1, .int .i64 x2] w fun e w' => e = .returned (.bool true) ∧ Below w.heap.size w w' := by
  go_enter Try.func10, Try.ntmps10
  have hB0 : Below w.heap.size w w := Below.refl _ _
  go_wp2_with fail
  refine (szPassingS_any x0 v0 _ _ (h0.below hB0) (by omega) (by omega)).mono ?_
  rintro e w1 ⟨q0, rfl, HQ0, hql0, hb1⟩
  have hB1 := step_ hB0 (Nat.le_refl _) hb1
  by_cases hq0 : q0 < 0
  · go_wp2_with fail
    go_ret
    exact ⟨rfl, hB1⟩
  have hqq0 : 0 ≤ q0 := by omega
  have HN0 := Lib.hid (HQ0.out hqq0)
  go_wp2_with fail
  refine (toPassingS_any x0 v0 _ (h0.below hB1) HN0.out.1 HN0.out.2).mono ?_
  rintro e w2 ⟨a0, za0, rfl, ka0, row_a0, hb2⟩
  have hB2 := step_ hB1 (Nat.le_refl _) hb2
  go_wp2_with fail
  refine (spec_ExpectedRank za0 (x0.map Pas.k) a0 x1 x2 _ ka0 row_a0.s hi1 hi2).mono ?_
  rintro e w3 ⟨rfl, hb3⟩
  have hB3 := step_ hB2 (Nat.le_refl _) hb3
  go_wp2_with fail
  refine (toPassingS_any x0 v0 _ (h0.below hB3) HN0.out.1 HN0.out.2).mono ?_
  rintro e w4 ⟨xx0, zxx0, rfl, kxx0, row_xx0, hb4⟩
  have hB4 := step_ hB3 (Nat.le_refl _) hb4
  go_wp2_with fail
  refine (impl_ExpectedRank zxx0 (x0.map Pas.k) xx0 x1 x2 _ kxx0 row_xx0.s hi1 hi2).mono ?_
  rintro e w5 ⟨rfl, hb5⟩
  have hB5 := step_ hB4 (Nat.le_refl _) hb5
  go_wp2_with fail
  refine (toPassingS_any x0 v0 _ (h0.below hB5) HN0.out.1 HN0.out.2).mono ?_
  rintro e w6 ⟨cc0, zcc0, rfl, kcc0, row_cc0, hb6⟩
  have hB6 := step_ hB5 (Nat.le_refl _) hb6
  go_wp2_with fail
  refine (eqPassingS_refl zxx0 zcc0 _ _ _ ((row_xx0.below hb5).below hb6).s row_cc0.s (kxx0.trans kcc0.symm)).mono ?_
  rintro e w7 ⟨rfl, hb7⟩
  have hB7 := step_ hB6 (Nat.le_refl _) hb7
  go_wp2_with fail
  go_ret
  exact ⟨rfl, hB7⟩
end Go.Proofs.Ytbeonigmcbipeaa
