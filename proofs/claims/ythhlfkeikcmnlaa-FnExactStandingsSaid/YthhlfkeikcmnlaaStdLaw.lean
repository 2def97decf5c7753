/- The walk of the law FnExactStandings: it returns true. No condition. -/
import Derived.Test.YthhlfkeikcmnlaaStdB
namespace Go.Proofs.Ythhlfkeikcmnlaa
open Go Go.RowKit

set_option maxHeartbeats 2000000 in
theorem fnExactStandings_walk (x0 : Int) (x1 : Int) (x2 : List Score) (v2 : Value) (w : World) (hi0 : I64 x0) (hi1 : I64 x1) (h2 : Sl (Flat Score.lst) 3 w v2 x2) (ho2 : ∀ x ∈ x2, Score.ok x) :
    Calls Try.prog 9 #[.int .i64 x0, .int .i64 x1, v2] w fun e w' => e = .returned (.bool true) ∧ Below w.heap.size w w' := by
  by_cases hs2 : x2.length ≤ 1048576
  rotate_left
  · go_enter Try.func9, Try.ntmps9
    go_wp2_with fail
    refine (szScoreS_any x2 v2 _ _ h2 (by omega) (by omega)).mono ?_
    rintro e w' ⟨rfl, rfl⟩
    rw [szLeft_big (by omega)]
    go_wp2_with fail
    go_ret
    exact ⟨rfl, by (repeat (first | exact Below.refl _ _ | assumption | refine Below.drew ?_ | refine Below.alloc ?_ (by first | exact Nat.le_refl _ | (simp; done) | (simp; omega)) _))⟩
  go_enter Try.func9, Try.ntmps9
  go_wp2_with fail
  refine (szScoreS_any x2 v2 _ _ h2 (by omega) (by omega)).mono ?_
  rintro e w' ⟨rfl, rfl⟩
  rw [szLeft_fits (by omega)]
  have hlen0 := stdV_len x0 x1 x2
  have hB0 : Below w.heap.size w w := Below.refl _ _
  go_wp2_with fail
  refine (toScoreS_any x2 v2 _ (h2.below (Flat.keeps _) hB0) (by omega)).mono ?_
  rintro e w1 ⟨a2, rfl, row_a2, hb1⟩
  have hB1 := step_ hB0 (Nat.le_refl _) hb1
  go_wp2_with fail
  refine (spec_Standings x0 x1 x2 a2 _ hi0 hi1 (Sl.of_flat row_a2) ho2).mono ?_
  rintro e w2 ⟨sw0, rfl, row_sw0, hb2⟩
  have hB2 := step_ hB1 (Nat.le_refl _) hb2
  go_wp2_with fail
  refine (toScoreS_any x2 v2 _ (h2.below (Flat.keeps _) hB2) (by omega)).mono ?_
  rintro e w3 ⟨xx2, rfl, row_xx2, hb3⟩
  have hB3 := step_ hB2 (Nat.le_refl _) hb3
  go_wp2_with fail
  refine (impl_Standings x0 x1 x2 xx2 _ hi0 hi1 (Sl.of_flat row_xx2) ho2).mono ?_
  rintro e w4 ⟨sg0, rfl, row_sg0, hb4⟩
  have hB4 := step_ hB3 (Nat.le_refl _) hb4
  go_wp2_with fail
  refine (eqIntS_refl (stdV x0 x1 x2) _ _ _ (Sl.of_flat row_sg0) (Sl.of_flat ((row_sw0.below hb3).below hb4))).mono ?_
  rintro e w5 ⟨rfl, hb5⟩
  have hB5 := step_ hB4 (Nat.le_refl _) hb5
  go_wp2_with fail
  refine (toScoreS_any x2 v2 _ (h2.below (Flat.keeps _) hB5) (by omega)).mono ?_
  rintro e w6 ⟨cc2, rfl, row_cc2, hb6⟩
  have hB6 := step_ hB5 (Nat.le_refl _) hb6
  go_wp2_with fail
  refine (eqScoreS_refl x2 _ _ _ (Sl.of_flat (((row_xx2.below hb4).below hb5).below hb6)) (Sl.of_flat row_cc2)).mono ?_
  rintro e w7 ⟨rfl, hb7⟩
  have hB7 := step_ hB6 (Nat.le_refl _) hb7
  go_wp2_with fail
  refine (markScoreS_any _ _ _ 1 _ ((((row_xx2.below hb4).below hb5).below hb6).below hb7) (by simp; omega) (by omega) (by omega)).mono ?_
  rintro e w8 ⟨rfl, cur8_xx2, hg8⟩
  simp only [List.length_map] at cur8_xx2 ⊢
  have hB8 := hB7.grown hg8 hB7.size (fun k hk => Nat.le_trans hB2.size (row_xx2.lt k hk).1)
  have cur8_sg0 := Row.kept (((row_sg0.below hb5).below hb6).below hb7) hg8 (apart_ row_xx2 row_sg0 (Nat.le_refl _))
  have cur8_sw0 := Row.kept (((((row_sw0.below hb3).below hb4).below hb5).below hb6).below hb7) hg8 (apart_' row_sw0 row_xx2 (Nat.le_refl _))
  go_wp2_with fail
  refine (eqIntS_refl (stdV x0 x1 x2) _ _ _ (Sl.of_flat cur8_sg0) (Sl.of_flat cur8_sw0)).mono ?_
  rintro e w9 ⟨rfl, hb9⟩
  have hB9 := step_ hB8 (Nat.le_refl _) hb9
  go_wp2_with fail
  refine (markIntS_any _ _ _ 1 _ (cur8_sg0.below hb9) (by simp; omega) (by omega) (by omega)).mono ?_
  rintro e w10 ⟨rfl, cur10_sg0, hg10⟩
  simp only [List.length_map] at cur10_sg0 ⊢
  have hB10 := hB9.grown hg10 hB9.size (fun k hk => Nat.le_trans hB3.size (row_sg0.lt k hk).1)
  have cur10_sw0 := Row.kept (cur8_sw0.below hb9) hg10 (apart_' row_sw0 row_sg0 (Nat.le_trans (Nat.le_refl _) hb3.size))
  go_wp2_with fail
  refine (heldIntS_any _ (stdV x0 x1 x2).length 1 _ (Sl.of_flat cur10_sg0) (by omega) (by omega) (by omega)).mono ?_
  rintro e w' ⟨rfl, rfl⟩
  go_wp2_with fail
  refine (toScoreS_any x2 v2 _ (h2.below (Flat.keeps _) hB10) (by omega)).mono ?_
  rintro e w11 ⟨bb2, rfl, row_bb2, hb11⟩
  have hB11 := step_ hB10 (Nat.le_refl _) hb11
  go_wp2_with fail
  refine (impl_Standings x0 x1 x2 bb2 _ hi0 hi1 (Sl.of_flat row_bb2) ho2).mono ?_
  rintro e w12 ⟨sh0, rfl, row_sh0, hb12⟩
  have hB12 := step_ hB11 (Nat.le_refl _) hb12
  go_wp2_with fail
  refine (eqIntS_refl (stdV x0 x1 x2) _ _ _ (Sl.of_flat row_sh0) (Sl.of_flat ((cur10_sw0.below hb11).below hb12))).mono ?_
  rintro e w13 ⟨rfl, hb13⟩
  have hB13 := step_ hB12 (Nat.le_refl _) hb13
  go_wp2_with fail
  refine (heldIntS_any _ (stdV x0 x1 x2).length 1 _ (Sl.of_flat (((cur10_sg0.below hb11).below hb12).below hb13)) (by omega) (by omega) (by omega)).mono ?_
  rintro e w' ⟨rfl, rfl⟩
  go_wp2_with fail
  go_ret
  exact ⟨rfl, hB13⟩
end Go.Proofs.Ythhlfkeikcmnlaa
