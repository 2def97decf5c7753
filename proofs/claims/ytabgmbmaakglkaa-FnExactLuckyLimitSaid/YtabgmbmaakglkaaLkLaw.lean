/- The walk of the law FnExactLuckyLimit: it returns true. No condition. -/
import Derived.Test.YtabgmbmaakglkaaHtO
import Derived.Test.YtabgmbmaakglkaaSgB
import Derived.Test.YtabgmbmaakglkaaHtM
namespace Go.Proofs.Ytabgmbmaakglkaa
open Go Go.RowKit

set_option maxRecDepth 100000 in
set_option maxHeartbeats 8000000 in
theorem fnExactLuckyLimit_walk (x0 : List Ht) (v0 : Value) (x1 : Int) (x2 : Int) (w : World) (h0 : HtS w v0 x0) (_ : ∀ p ∈ x0, p.k.ok) (hi1 : I64 x1) (hi2 : I64 x2) :
    Calls Try.prog 5 #[v0, .int .i64 x1, .int .i64 x2] w fun e w' => e = .returned (.bool true) ∧ Below w.heap.size w w' := by
  go_enter Try.func5, Try.ntmps5
  have hB0 : Below w.heap.size w w := Below.refl _ _
  go_wp2_with fail
  refine (szHeatS_any x0 v0 _ _ (h0.below hB0) (by omega) (by omega)).mono ?_
  rintro e w1 ⟨q0, rfl, HQ0, hql0, hb1⟩
  have hB1 := step_ hB0 (Nat.le_refl _) hb1
  by_cases hq0 : q0 < 0
  · go_wp2_with fail
    go_ret
    exact ⟨rfl, hB1⟩
  have hqq0 : 0 ≤ q0 := by omega
  have HN0 := Lib.hid (HQ0.out hqq0)
  go_wp2_with fail
  refine (toHeatS_any x0 v0 _ (h0.below hB1) HN0.out.1 HN0.out.2).mono ?_
  rintro e w2 ⟨a0, za0, rfl, ka0, row_a0, hb2⟩
  have hB2 := step_ hB1 (Nat.le_refl _) hb2
  go_wp2_with fail
  refine (spec_LuckyLimit za0 (x0.map Ht.k) a0 x1 x2 _ ka0 row_a0.s (lenHt ka0 HN0.out.1) hi1 hi2).mono ?_
  rintro e w3 ⟨rfl, hb3⟩
  have hB3 := step_ hB2 (Nat.le_refl _) hb3
  go_wp2_with fail
  refine (toHeatS_any x0 v0 _ (h0.below hB3) HN0.out.1 HN0.out.2).mono ?_
  rintro e w4 ⟨xx0, zxx0, rfl, kxx0, row_xx0, hb4⟩
  have hB4 := step_ hB3 (Nat.le_refl _) hb4
  go_wp2_with fail
  refine (impl_LuckyLimit zxx0 (x0.map Ht.k) xx0 x1 x2 _ kxx0 row_xx0.s (lenHt kxx0 HN0.out.1) hi1 hi2).mono ?_
  rintro e w5 ⟨rfl, hb5⟩
  have hB5 := step_ hB4 (Nat.le_refl _) hb5
  go_wp2_with fail
  refine (toHeatS_any x0 v0 _ (h0.below hB5) HN0.out.1 HN0.out.2).mono ?_
  rintro e w6 ⟨cc0, zcc0, rfl, kcc0, row_cc0, hb6⟩
  have hB6 := step_ hB5 (Nat.le_refl _) hb6
  go_wp2_with fail
  refine (eqHeatS_refl zxx0 zcc0 _ _ _ ((row_xx0.below hb5).below hb6).s row_cc0.s (kxx0.trans kcc0.symm)).mono ?_
  rintro e w7 ⟨rfl, hb7⟩
  have hB7 := step_ hB6 (Nat.le_refl _) hb7
  go_wp2_with fail
  go_ret
  exact ⟨rfl, hB7⟩
end Go.Proofs.Ytabgmbmaakglkaa
