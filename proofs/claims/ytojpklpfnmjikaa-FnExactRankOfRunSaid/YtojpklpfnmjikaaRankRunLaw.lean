/- The walk of the law FnExactRankOfRun: it returns true. No condition. -/
import Derived.Test.YtojpklpfnmjikaaReC
import Derived.Test.YtojpklpfnmjikaaRnM
import Derived.Test.YtojpklpfnmjikaaIntH
namespace Go.Proofs.Ytojpklpfnmjikaa
open Go Go.RowKit

set_option maxRecDepth 100000 in
set_option maxHeartbeats 8000000 in
theorem fnExactRankOfRun_walk (x0 : List Run) (v0 : Value) (x1 : List Int) (v1 : Value) (x2 : Int) (x3 : Int) (w : World) (h0 : RunS w v0 x0) (_ : ∀ p ∈ x0, p.k.ok) (h1 : Sl (Flat ints) 1 w v1 x1) (ho1 : ∀ x ∈ x1, I64 x) (hi2 : I64 x2) (hi3 : I64 x3) :
    Calls Try.prog 6 #[v0, v1, .int .i64 x2, .int .i64 x3] w fun e w' => e = .returned (.bool true) ∧ Below w.heap.size w w' := by
  have HV1 := Lib.hid h1
  obtain ⟨A1, c1, rfl, hc1, hm1, _⟩ := h1.open_
  by_cases hn1 : x1.length ≤ 1048576
  rotate_left
  · go_enter Try.func6, Try.ntmps6
    go_wp2_with fail
    go_ret
    exact ⟨rfl, by first | exact Below.refl _ _ | (repeat (first | exact Below.refl _ _ | assumption | refine Below.drew ?_ | refine Below.alloc ?_ (by first | exact Nat.le_refl _ | (simp; done) | (simp; omega)) _))⟩
  go_enter Try.func6, Try.ntmps6
  have hB0 : Below w.heap.size w w := Below.refl _ _
  go_wp2_with fail
  refine (szRunS_any x0 v0 _ _ (h0.below hB0) (by omega) (by omega)).mono ?_
  rintro e w1 ⟨q0, rfl, HQ0, hql0, hb1⟩
  have hB1 := step_ hB0 (Nat.le_refl _) hb1
  by_cases hq0 : q0 < 0
  · go_wp2_with fail
    go_ret
    exact ⟨rfl, hB1⟩
  have hqq0 : 0 ≤ q0 := by omega
  have HN0 := Lib.hid (HQ0.out hqq0)
  go_wp2_with fail
  refine (toRunS_any x0 v0 _ (h0.below hB1) HN0.out.1 HN0.out.2).mono ?_
  rintro e w2 ⟨a0, za0, rfl, ka0, row_a0, hb2⟩
  have hB2 := step_ hB1 (Nat.le_refl _) hb2
  go_wp2_with fail
  refine (toIntS_any x1 _ _ (HV1.out.below (Flat.keeps _) hB2) hn1).mono ?_
  rintro e w3 ⟨a1, rfl, row_a1, hb3⟩
  have hB3 := step_ hB2 (Nat.le_refl _) hb3
  go_wp2_with fail
  refine (spec_RankOfRun za0 (x0.map Run.k) a0 x1 a1 x2 x3 _ ka0 (row_a0.below hb3).s (Sl.of_flat row_a1) ho1 hi2 hi3).mono ?_
  rintro e w4 ⟨rfl, hb4⟩
  have hB4 := step_ hB3 (Nat.le_refl _) hb4
  go_wp2_with fail
  refine (toRunS_any x0 v0 _ (h0.below hB4) HN0.out.1 HN0.out.2).mono ?_
  rintro e w5 ⟨xx0, zxx0, rfl, kxx0, row_xx0, hb5⟩
  have hB5 := step_ hB4 (Nat.le_refl _) hb5
  go_wp2_with fail
  refine (toIntS_any x1 _ _ (HV1.out.below (Flat.keeps _) hB5) hn1).mono ?_
  rintro e w6 ⟨xx1, rfl, row_xx1, hb6⟩
  have hB6 := step_ hB5 (Nat.le_refl _) hb6
  go_wp2_with fail
  refine (impl_RankOfRun zxx0 (x0.map Run.k) xx0 x1 xx1 x2 x3 _ kxx0 (row_xx0.below hb6).s (Sl.of_flat row_xx1) ho1 hi2 hi3).mono ?_
  rintro e w7 ⟨rfl, hb7⟩
  have hB7 := step_ hB6 (Nat.le_refl _) hb7
  go_wp2_with fail
  refine (toRunS_any x0 v0 _ (h0.below hB7) HN0.out.1 HN0.out.2).mono ?_
  rintro e w8 ⟨cc0, zcc0, rfl, kcc0, row_cc0, hb8⟩
  have hB8 := step_ hB7 (Nat.le_refl _) hb8
  go_wp2_with fail
  refine (eqRunS_refl zxx0 zcc0 _ _ _ (((row_xx0.below hb6).below hb7).below hb8).s row_cc0.s (kxx0.trans kcc0.symm)).mono ?_
  rintro e w9 ⟨rfl, hb9⟩
  have hB9 := step_ hB8 (Nat.le_refl _) hb9
  go_wp2_with fail
  refine (toIntS_any x1 _ _ (HV1.out.below (Flat.keeps _) hB9) hn1).mono ?_
  rintro e w10 ⟨cc1, rfl, row_cc1, hb10⟩
  have hB10 := step_ hB9 (Nat.le_refl _) hb10
  go_wp2_with fail
  refine (eqIntS_refl x1 _ _ _ (Sl.of_flat ((((row_xx1.below hb7).below hb8).below hb9).below hb10)) (Sl.of_flat row_cc1)).mono ?_
  rintro e w11 ⟨rfl, hb11⟩
  have hB11 := step_ hB10 (Nat.le_refl _) hb11
  go_wp2_with fail
  go_ret
  exact ⟨rfl, hB11⟩
end Go.Proofs.Ytojpklpfnmjikaa
