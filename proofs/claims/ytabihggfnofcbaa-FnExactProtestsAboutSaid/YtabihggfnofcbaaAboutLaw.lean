/- The walk of the law FnExactProtestsAbout: it returns true. No condition. -/
import Derived.Test.YtabihggfnofcbaaAbout
namespace Go.Proofs.Ytabihggfnofcbaa
open Go Go.RowKit

set_option maxHeartbeats 2000000 in
theorem fnExactProtestsAbout_walk (x0 : List Prot) (v0 : Value) (x1 : Int) (w : World) (h0 : Sl (Flat Prot.lst) 6 w v0 x0) (ho0 : ∀ x ∈ x0, Prot.ok x) (hi1 : I64 x1) :
    Calls Try.prog 7 #[v0, .int .i64 x1] w fun e w' => e = .returned (.bool true) ∧ Below w.heap.size w w' := by
  by_cases hs0 : x0.length ≤ 1048576
  rotate_left
  · go_enter Try.func7, Try.ntmps7
    go_wp2_with fail
    refine (szProtestS_any x0 v0 _ _ h0 (by omega) (by omega)).mono ?_
    rintro e w' ⟨rfl, rfl⟩
    rw [szLeft_big (by omega)]
    go_wp2_with fail
    go_ret
    exact ⟨rfl, Below.refl _ _⟩
  go_enter Try.func7, Try.ntmps7
  go_wp2_with fail
  refine (szProtestS_any x0 v0 _ _ h0 (by omega) (by omega)).mono ?_
  rintro e w' ⟨rfl, rfl⟩
  rw [szLeft_fits (by omega)]
  have hlen0 := aboutM_len x0 x1
  have hlen1 := byM_len x0 x1
  have hB0 : Below w.heap.size w w := Below.refl _ _
  go_wp2_with fail
  refine (toProtestS_any x0 v0 _ (h0.below (Flat.keeps _) hB0) (by omega)).mono ?_
  rintro e w1 ⟨a0, rfl, row_a0, hb1⟩
  have hB1 := step_ hB0 (Nat.le_refl _) hb1
  go_wp2_with fail
  refine (spec_ProtestsAbout x0 a0 x1 _ (Sl.of_flat row_a0) ho0 hi1).mono ?_
  rintro e w2 ⟨sw0, sw1, rfl, row_sw0, row_sw1, hap_sw, hb2⟩
  have hB2 := step_ hB1 (Nat.le_refl _) hb2
  go_wp2_with fail
  refine (toProtestS_any x0 v0 _ (h0.below (Flat.keeps _) hB2) (by omega)).mono ?_
  rintro e w3 ⟨xx0, rfl, row_xx0, hb3⟩
  have hB3 := step_ hB2 (Nat.le_refl _) hb3
  go_wp2_with fail
  refine (impl_ProtestsAbout x0 xx0 x1 _ (Sl.of_flat row_xx0) ho0 hi1).mono ?_
  rintro e w4 ⟨sg0, sg1, rfl, row_sg0, row_sg1, hap_sg, hb4⟩
  have hB4 := step_ hB3 (Nat.le_refl _) hb4
  go_wp2_with fail
  refine (eqIntS_refl (aboutM x0 x1) _ _ _ (Sl.of_flat row_sg0) (Sl.of_flat ((row_sw0.below hb3).below hb4))).mono ?_
  rintro e w5 ⟨rfl, hb5⟩
  have hB5 := step_ hB4 (Nat.le_refl _) hb5
  go_wp2_with fail
  refine (eqIntS_refl (byM x0 x1) _ _ _ (Sl.of_flat (row_sg1.below hb5)) (Sl.of_flat (((row_sw1.below hb3).below hb4).below hb5))).mono ?_
  rintro e w6 ⟨rfl, hb6⟩
  have hB6 := step_ hB5 (Nat.le_refl _) hb6
  go_wp2_with fail
  refine (toProtestS_any x0 v0 _ (h0.below (Flat.keeps _) hB6) (by omega)).mono ?_
  rintro e w7 ⟨cc0, rfl, row_cc0, hb7⟩
  have hB7 := step_ hB6 (Nat.le_refl _) hb7
  go_wp2_with fail
  refine (eqProtestS_refl x0 _ _ _ (Sl.of_flat ((((row_xx0.below hb4).below hb5).below hb6).below hb7)) (Sl.of_flat row_cc0)).mono ?_
  rintro e w8 ⟨rfl, hb8⟩
  have hB8 := step_ hB7 (Nat.le_refl _) hb8
  go_wp2_with fail
  refine (markProtestS_any _ _ _ 1 _ (((((row_xx0.below hb4).below hb5).below hb6).below hb7).below hb8) (by simp; omega) (by omega) (by omega)).mono ?_
  rintro e w9 ⟨rfl, cur9_xx0, hg9⟩
  simp only [List.length_map] at cur9_xx0 ⊢
  have hB9 := hB8.grown hg9 hB8.size (fun k hk => Nat.le_trans hB2.size (row_xx0.lt k hk).1)
  have cur9_sg0 := Row.kept ((((row_sg0.below hb5).below hb6).below hb7).below hb8) hg9 (apart_ row_xx0 row_sg0 (Nat.le_refl _))
  have cur9_sg1 := Row.kept ((((row_sg1.below hb5).below hb6).below hb7).below hb8) hg9 (apart_ row_xx0 row_sg1 (Nat.le_refl _))
  have cur9_sw0 := Row.kept ((((((row_sw0.below hb3).below hb4).below hb5).below hb6).below hb7).below hb8) hg9 (apart_' row_sw0 row_xx0 (Nat.le_refl _))
  have cur9_sw1 := Row.kept ((((((row_sw1.below hb3).below hb4).below hb5).below hb6).below hb7).below hb8) hg9 (apart_' row_sw1 row_xx0 (Nat.le_refl _))
  go_wp2_with fail
  refine (eqIntS_refl (aboutM x0 x1) _ _ _ (Sl.of_flat cur9_sg0) (Sl.of_flat cur9_sw0)).mono ?_
  rintro e w10 ⟨rfl, hb10⟩
  have hB10 := step_ hB9 (Nat.le_refl _) hb10
  go_wp2_with fail
  refine (eqIntS_refl (byM x0 x1) _ _ _ (Sl.of_flat (cur9_sg1.below hb10)) (Sl.of_flat (cur9_sw1.below hb10))).mono ?_
  rintro e w11 ⟨rfl, hb11⟩
  have hB11 := step_ hB10 (Nat.le_refl _) hb11
  go_wp2_with fail
  refine (markIntS_any _ _ _ 1 _ ((cur9_sg0.below hb10).below hb11) (by simp; omega) (by omega) (by omega)).mono ?_
  rintro e w12 ⟨rfl, cur12_sg0, hg12⟩
  simp only [List.length_map] at cur12_sg0 ⊢
  have hB12 := hB11.grown hg12 hB11.size (fun k hk => Nat.le_trans hB3.size (row_sg0.lt k hk).1)
  have cur12_sg1 := Row.kept ((cur9_sg1.below hb10).below hb11) hg12 (Apart.symm hap_sg)
  have cur12_sw0 := Row.kept ((cur9_sw0.below hb10).below hb11) hg12 (apart_' row_sw0 row_sg0 (Nat.le_trans (Nat.le_refl _) hb3.size))
  have cur12_sw1 := Row.kept ((cur9_sw1.below hb10).below hb11) hg12 (apart_' row_sw1 row_sg0 (Nat.le_trans (Nat.le_refl _) hb3.size))
  go_wp2_with fail
  refine (markIntS_any _ _ _ _ _ cur12_sg1 (by simp; omega) (by omega) (by omega)).mono ?_
  rintro e w13 ⟨rfl, cur13_sg1, hg13⟩
  simp only [List.length_map] at cur13_sg1 ⊢
  have hB13 := hB12.grown hg13 hB12.size (fun k hk => Nat.le_trans hB3.size (row_sg1.lt k hk).1)
  have cur13_sg0 := Row.kept cur12_sg0 hg13 hap_sg
  have cur13_sw0 := Row.kept cur12_sw0 hg13 (apart_' row_sw0 row_sg1 (Nat.le_trans (Nat.le_refl _) hb3.size))
  have cur13_sw1 := Row.kept cur12_sw1 hg13 (apart_' row_sw1 row_sg1 (Nat.le_trans (Nat.le_refl _) hb3.size))
  go_wp2_with fail
  refine (heldIntS_any _ (aboutM x0 x1).length 1 _ (Sl.of_flat cur13_sg0) (by omega) (by omega) (by omega)).mono ?_
  rintro e w' ⟨rfl, rfl⟩
  go_wp2_with fail
  refine (heldIntS_any _ (byM x0 x1).length _ _ (Sl.of_flat cur13_sg1) (by omega) (by omega) (by omega)).mono ?_
  rintro e w' ⟨rfl, rfl⟩
  go_wp2_with fail
  refine (toProtestS_any x0 v0 _ (h0.below (Flat.keeps _) hB13) (by omega)).mono ?_
  rintro e w14 ⟨bb0, rfl, row_bb0, hb14⟩
  have hB14 := step_ hB13 (Nat.le_refl _) hb14
  go_wp2_with fail
  refine (impl_ProtestsAbout x0 bb0 x1 _ (Sl.of_flat row_bb0) ho0 hi1).mono ?_
  rintro e w15 ⟨sh0, sh1, rfl, row_sh0, row_sh1, hap_sh, hb15⟩
  have hB15 := step_ hB14 (Nat.le_refl _) hb15
  go_wp2_with fail
  refine (eqIntS_refl (aboutM x0 x1) _ _ _ (Sl.of_flat row_sh0) (Sl.of_flat ((cur13_sw0.below hb14).below hb15))).mono ?_
  rintro e w16 ⟨rfl, hb16⟩
  have hB16 := step_ hB15 (Nat.le_refl _) hb16
  go_wp2_with fail
  refine (eqIntS_refl (byM x0 x1) _ _ _ (Sl.of_flat (row_sh1.below hb16)) (Sl.of_flat (((cur13_sw1.below hb14).below hb15).below hb16))).mono ?_
  rintro e w17 ⟨rfl, hb17⟩
  have hB17 := step_ hB16 (Nat.le_refl _) hb17
  go_wp2_with fail
  refine (heldIntS_any _ (aboutM x0 x1).length 1 _ (Sl.of_flat ((((cur13_sg0.below hb14).below hb15).below hb16).below hb17)) (by omega) (by omega) (by omega)).mono ?_
  rintro e w' ⟨rfl, rfl⟩
  go_wp2_with fail
  refine (heldIntS_any _ (byM x0 x1).length _ _ (Sl.of_flat ((((cur13_sg1.below hb14).below hb15).below hb16).below hb17)) (by omega) (by omega) (by omega)).mono ?_
  rintro e w' ⟨rfl, rfl⟩
  go_wp2_with fail
  go_ret
  exact ⟨rfl, hB17⟩
end Go.Proofs.Ytabihggfnofcbaa
