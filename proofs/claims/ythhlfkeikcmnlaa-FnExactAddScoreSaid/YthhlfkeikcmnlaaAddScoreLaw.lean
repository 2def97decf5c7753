/- The walk of the law FnExactAddScore: it returns true. No condition. -/
import Derived.Test.YthhlfkeikcmnlaaAddScore
import Derived.Deep.RegionHeld3
namespace Go.Proofs.Ythhlfkeikcmnlaa
open Go Go.RowKit

set_option maxHeartbeats 2000000 in
theorem fnExactAddScore_walk (x0 : Int) (x1 : Int) (x2 : List Score) (v2 : Value) (x3 : Score) (w : World) (hi0 : I64 x0) (hi1 : I64 x1) (h2 : Sl (Flat Score.lst) 3 w v2 x2) (ho2 : ∀ x ∈ x2, Score.ok x) (ho3 : Score.ok x3) :
    Calls Try.prog 4 #[.int .i64 x0, .int .i64 x1, v2, x3.val] w fun e w' => e = .returned (.bool true) ∧ Below w.heap.size w w' := by
  obtain ⟨s0, s1, s2⟩ := x3
  show Calls Try.prog 4 #[.int .i64 x0, .int .i64 x1, v2, .agg #[.int .i64 s0, .int .i64 s1, .int .i64 s2]] w _
  have hcs := Score.cellsNew w ⟨s0, s1, s2⟩ 30
  have hW : Below w.heap.size w (w.alloc (.cells #[.int .i64 s0, .int .i64 s1, .int .i64 s2] 30)) := by (repeat (first | exact Below.refl _ _ | assumption | refine Below.drew ?_ | refine Below.alloc ?_ (by first | exact Nat.le_refl _ | (simp; done) | (simp; omega)) _))
  simp only at hcs
  by_cases hs2 : x2.length ≤ 1048576
  rotate_left
  · go_enter Try.func4, Try.ntmps4
    go_wp2_with fail
    refine (szScoreS_any x2 v2 _ _ (h2.below (Flat.keeps _) hW) (by omega) (by omega)).mono ?_
    rintro e w' ⟨rfl, rfl⟩
    rw [szLeft_big (by omega)]
    go_wp2_with fail
    go_ret
    exact ⟨rfl, by (repeat (first | exact Below.refl _ _ | assumption | refine Below.drew ?_ | refine Below.alloc ?_ (by first | exact Nat.le_refl _ | (simp; done) | (simp; omega)) _))⟩
  go_enter Try.func4, Try.ntmps4
  go_wp2_with fail
  generalize w.alloc (.cells #[.int .i64 s0, .int .i64 s1, .int .i64 s2] 30) = W at hcs hW ⊢
  have h2 := h2.below (Flat.keeps _) hW
  have HKEEP := Lib.hid (show ∀ W', Below W.heap.size W W' → W'.cell? ⟨w.heap.size, 0, none⟩ = some (.int .i64 s0) ∧ W'.cell? ⟨w.heap.size, 1, none⟩ = some (.int .i64 s1) ∧ W'.cell? ⟨w.heap.size, 2, none⟩ = some (.int .i64 s2) from fun W' hW' => hcs ⟨W', hW'⟩)
  go_wp2_with fail
  refine (szScoreS_any x2 v2 _ _ h2 (by omega) (by omega)).mono ?_
  rintro e w' ⟨rfl, rfl⟩
  rw [szLeft_fits (by omega)]
  have hlen0 := asOut_len x0 x1 x2 ⟨s0, s1, s2⟩
  have hB0 : Below W.heap.size W W := Below.refl _ _
  go_wp2_with fail
  have hB0d := hB0.drew
  go_region_held3 (fun w' => w'.cell? ⟨w.heap.size, 0, none⟩ = some (.int .i64 s0) ∧ w'.cell? ⟨w.heap.size, 1, none⟩ = some (.int .i64 s1) ∧ w'.cell? ⟨w.heap.size, 2, none⟩ = some (.int .i64 s2)) (exact HKEEP.out _ (by first | (with_reducible exact hB3) | (with_reducible exact hB2) | (with_reducible exact hB1) | (with_reducible exact hB0d)))
    (first
      | (go_at_call 16; refine (toScoreS_any x2 v2 _ (h2.below (Flat.keeps _) hB0d) (by omega)).mono ?_; rintro e w1 ⟨a2, rfl, row_a2, hb1⟩; have hB1 := step_ hB0d (Nat.le_refl _) hb1)
      | (go_at_call 20; refine (toScore_any ⟨s0, s1, s2⟩ _).mono ?_; rintro e w2 ⟨rfl, hb2⟩; have hB2 := step_ hB1 (Nat.le_refl _) hb2)
      | (go_at_call 19; refine (spec_AddScore x0 x1 x2 a2 ⟨s0, s1, s2⟩ _ hi0 hi1 (Sl.of_flat (row_a2.below hb2)) ho2 ho3 (by omega)).mono ?_; rintro e w3 ⟨sw0, rfl, row_sw0, hb3⟩; have hB3 := step_ hB2 (Nat.le_refl _) hb3))
  go_wp2_with fail
  refine (toScoreS_any x2 v2 _ (h2.below (Flat.keeps _) hB3) (by omega)).mono ?_
  rintro e w4 ⟨xx2, rfl, row_xx2, hb4⟩
  have hB4 := step_ hB3 (Nat.le_refl _) hb4
  have hc4 := hcs ⟨w4, hB4⟩
  simp only at hc4
  go_wp2_with fail
  refine (toScore_any ⟨s0, s1, s2⟩ _).mono ?_
  rintro e w5 ⟨rfl, hb5⟩
  have hB5 := step_ hB4 (Nat.le_refl _) hb5
  go_wp2_with fail
  refine (impl_AddScore x0 x1 x2 xx2 ⟨s0, s1, s2⟩ _ hi0 hi1 (Sl.of_flat (row_xx2.below hb5)) ho2 ho3 (by omega)).mono ?_
  rintro e w6 ⟨sg0, rfl, row_sg0, hb6⟩
  have hB6 := step_ hB5 (Nat.le_refl _) hb6
  go_wp2_with fail
  refine (eqScoreS_refl (asOut x0 x1 x2 ⟨s0, s1, s2⟩) _ _ _ (Sl.of_flat row_sg0) (Sl.of_flat (((row_sw0.below hb4).below hb5).below hb6))).mono ?_
  rintro e w7 ⟨rfl, hb7⟩
  have hB7 := step_ hB6 (Nat.le_refl _) hb7
  go_wp2_with fail
  refine (toScoreS_any x2 v2 _ (h2.below (Flat.keeps _) hB7) (by omega)).mono ?_
  rintro e w8 ⟨cc2, rfl, row_cc2, hb8⟩
  have hB8 := step_ hB7 (Nat.le_refl _) hb8
  go_wp2_with fail
  refine (eqScoreS_refl x2 _ _ _ (Sl.of_flat ((((row_xx2.below hb5).below hb6).below hb7).below hb8)) (Sl.of_flat row_cc2)).mono ?_
  rintro e w9 ⟨rfl, hb9⟩
  have hB9 := step_ hB8 (Nat.le_refl _) hb9
  go_wp2_with fail
  refine (markScoreS_any _ _ _ 1 _ (((((row_xx2.below hb5).below hb6).below hb7).below hb8).below hb9) (by simp; omega) (by omega) (by omega)).mono ?_
  rintro e w10 ⟨rfl, cur10_xx2, hg10⟩
  simp only [List.length_map] at cur10_xx2 ⊢
  have hB10 := hB9.grown hg10 hB9.size (fun k hk => Nat.le_trans hB3.size (row_xx2.lt k hk).1)
  have cur10_sg0 := Row.kept (((row_sg0.below hb7).below hb8).below hb9) hg10 (apart_ row_xx2 row_sg0 (Nat.le_trans (Nat.le_refl _) hb5.size))
  have cur10_sw0 := Row.kept ((((((row_sw0.below hb4).below hb5).below hb6).below hb7).below hb8).below hb9) hg10 (apart_' row_sw0 row_xx2 (Nat.le_refl _))
  go_wp2_with fail
  refine (eqScoreS_refl (asOut x0 x1 x2 ⟨s0, s1, s2⟩) _ _ _ (Sl.of_flat cur10_sg0) (Sl.of_flat cur10_sw0)).mono ?_
  rintro e w11 ⟨rfl, hb11⟩
  have hB11 := step_ hB10 (Nat.le_refl _) hb11
  go_wp2_with fail
  refine (markScoreS_any _ _ _ 1 _ (cur10_sg0.below hb11) (by simp; omega) (by omega) (by omega)).mono ?_
  rintro e w12 ⟨rfl, cur12_sg0, hg12⟩
  simp only [List.length_map] at cur12_sg0 ⊢
  have hB12 := hB11.grown hg12 hB11.size (fun k hk => Nat.le_trans hB5.size (row_sg0.lt k hk).1)
  have cur12_sw0 := Row.kept (cur10_sw0.below hb11) hg12 (apart_' row_sw0 row_sg0 (Nat.le_trans (Nat.le_trans (Nat.le_refl _) hb4.size) hb5.size))
  go_wp2_with fail
  refine (heldScoreS_any _ (asOut x0 x1 x2 ⟨s0, s1, s2⟩).length 1 _ (Sl.of_flat cur12_sg0) (by omega) (by omega) (by omega)).mono ?_
  rintro e w' ⟨rfl, rfl⟩
  go_wp2_with fail
  have hB12d := hB12.drew
  go_region_held3 (fun w' => w'.cell? ⟨w.heap.size, 0, none⟩ = some (.int .i64 s0) ∧ w'.cell? ⟨w.heap.size, 1, none⟩ = some (.int .i64 s1) ∧ w'.cell? ⟨w.heap.size, 2, none⟩ = some (.int .i64 s2)) (exact HKEEP.out _ (by first | (with_reducible exact hB15) | (with_reducible exact hB14) | (with_reducible exact hB13) | (with_reducible exact hB12d)))
    (first
      | (go_at_call 16; refine (toScoreS_any x2 v2 _ (h2.below (Flat.keeps _) hB12d) (by omega)).mono ?_; rintro e w13 ⟨bb2, rfl, row_bb2, hb13⟩; have hB13 := step_ hB12d (Nat.le_refl _) hb13)
      | (go_at_call 20; refine (toScore_any ⟨s0, s1, s2⟩ _).mono ?_; rintro e w14 ⟨rfl, hb14⟩; have hB14 := step_ hB13 (Nat.le_refl _) hb14)
      | (go_at_call 21; refine (impl_AddScore x0 x1 x2 bb2 ⟨s0, s1, s2⟩ _ hi0 hi1 (Sl.of_flat (row_bb2.below hb14)) ho2 ho3 (by omega)).mono ?_; rintro e w15 ⟨sh0, rfl, row_sh0, hb15⟩; have hB15 := step_ hB14 (Nat.le_refl _) hb15))
  go_wp2_with fail
  refine (eqScoreS_refl (asOut x0 x1 x2 ⟨s0, s1, s2⟩) _ _ _ (Sl.of_flat row_sh0) (Sl.of_flat ((((cur12_sw0.drew).below hb13).below hb14).below hb15))).mono ?_
  rintro e w16 ⟨rfl, hb16⟩
  have hB16 := step_ hB15 (Nat.le_refl _) hb16
  go_wp2_with fail
  refine (heldScoreS_any _ (asOut x0 x1 x2 ⟨s0, s1, s2⟩).length 1 _ (Sl.of_flat (((((cur12_sg0.drew).below hb13).below hb14).below hb15).below hb16)) (by omega) (by omega) (by omega)).mono ?_
  rintro e w' ⟨rfl, rfl⟩
  go_wp2_with fail
  go_ret
  exact ⟨rfl, step_ hW (Nat.le_refl _) hB16⟩
end Go.Proofs.Ythhlfkeikcmnlaa
