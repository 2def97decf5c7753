/- The walk of the law FnExactBestLegs: it returns true. No condition. -/
import Derived.Test.YtojpklpfnmjikaaBlB
import Derived.Test.YtojpklpfnmjikaaRnM
import Derived.Test.YtojpklpfnmjikaaIntH
namespace Go.Proofs.Ytojpklpfnmjikaa
open Go Go.RowKit

set_option maxRecDepth 100000 in
set_option maxHeartbeats 8000000 in
theorem fnExactBestLegs_walk (x0 : List Run) (v0 : Value) (x1 : List Int) (v1 : Value) (x2 : Int) (w : World) (h0 : RunS w v0 x0) (_ : ∀ p ∈ x0, p.k.ok) (h1 : Sl (Flat ints) 1 w v1 x1) (ho1 : ∀ x ∈ x1, I64 x) (hi2 : I64 x2) :
    Calls Try.prog 9 #[v0, v1, .int .i64 x2] w fun e w' => e = .returned (.bool true) ∧ Below w.heap.size w w' := by
  have HV1 := Lib.hid h1
  obtain ⟨A1, c1, rfl, hc1, hm1, _⟩ := h1.open_
  by_cases hn1 : x1.length ≤ 1048576
  rotate_left
  · go_enter Try.func9, Try.ntmps9
    go_wp2_with fail
    go_ret
    exact ⟨rfl, by first | exact Below.refl _ _ | (repeat (first | exact Below.refl _ _ | assumption | refine Below.drew ?_ | refine Below.alloc ?_ (by first | exact Nat.le_refl _ | (simp; done) | (simp; omega)) _))⟩
  go_enter Try.func9, Try.ntmps9
  have hB0 : Below w.heap.size w w := Below.refl _ _
  go_wp2_with fail
  refine (szRunS_any x0 v0 _ _ (h0.below hB0) (by omega) (by omega)).mono ?_
  rintro e w1 ⟨q0, rfl, HQ0, hql0, hb1⟩
  have hB1 := step_ hB0 (Nat.le_refl _) hb1
  by_cases hq0 : q0 < 0
  · go_wp2_with fail
    go_ret
    exact ⟨rfl, hB1⟩
  have hqq0 : 0 ≤ q0 := by omega
  have HN0 := Lib.hid (HQ0.out hqq0)
  have hlen0 := blV_len (x0.map Run.k) x1 x2
  go_wp2_with fail
  refine (toRunS_any x0 v0 _ (h0.below hB1) HN0.out.1 HN0.out.2).mono ?_
  rintro e w2 ⟨a0, za0, rfl, ka0, row_a0, hb2⟩
  have hB2 := step_ hB1 (Nat.le_refl _) hb2
  go_wp2_with fail
  refine (toIntS_any x1 _ _ (HV1.out.below (Flat.keeps _) hB2) hn1).mono ?_
  rintro e w3 ⟨a1, rfl, row_a1, hb3⟩
  have hB3 := step_ hB2 (Nat.le_refl _) hb3
  go_wp2_with fail
  refine (spec_BestLegs za0 (x0.map Run.k) a0 x1 a1 x2 _ ka0 (row_a0.below hb3).s (Sl.of_flat row_a1) ho1 hi2).mono ?_
  rintro e w4 ⟨sw0, rfl, row_sw0, hb4⟩
  have hB4 := step_ hB3 (Nat.le_refl _) hb4
  go_wp2_with fail
  refine (toRunS_any x0 v0 _ (h0.below hB4) HN0.out.1 HN0.out.2).mono ?_
  rintro e w5 ⟨xx0, zxx0, rfl, kxx0, row_xx0, hb5⟩
  have hB5 := step_ hB4 (Nat.le_refl _) hb5
  go_wp2_with fail
  refine (toIntS_any x1 _ _ (HV1.out.below (Flat.keeps _) hB5) hn1).mono ?_
  rintro e w6 ⟨xx1, rfl, row_xx1, hb6⟩
  have hB6 := step_ hB5 (Nat.le_refl _) hb6
  go_wp2_with fail
  refine (impl_BestLegs zxx0 (x0.map Run.k) xx0 x1 xx1 x2 _ kxx0 (row_xx0.below hb6).s (Sl.of_flat row_xx1) ho1 hi2).mono ?_
  rintro e w7 ⟨sg0, rfl, row_sg0, hb7⟩
  have hB7 := step_ hB6 (Nat.le_refl _) hb7
  go_wp2_with fail
  refine (eqIntS_refl (blV (x0.map Run.k) x1 x2) _ _ _ (Sl.of_flat row_sg0) (Sl.of_flat (((row_sw0.below hb5).below hb6).below hb7))).mono ?_
  rintro e w8 ⟨rfl, hb8⟩
  have hB8 := step_ hB7 (Nat.le_refl _) hb8
  go_wp2_with fail
  refine (toRunS_any x0 v0 _ (h0.below hB8) HN0.out.1 HN0.out.2).mono ?_
  rintro e w9 ⟨cc0, zcc0, rfl, kcc0, row_cc0, hb9⟩
  have hB9 := step_ hB8 (Nat.le_refl _) hb9
  go_wp2_with fail
  refine (eqRunS_refl zxx0 zcc0 _ _ _ ((((row_xx0.below hb6).below hb7).below hb8).below hb9).s row_cc0.s (kxx0.trans kcc0.symm)).mono ?_
  rintro e w10 ⟨rfl, hb10⟩
  have hB10 := step_ hB9 (Nat.le_refl _) hb10
  go_wp2_with fail
  refine (toIntS_any x1 _ _ (HV1.out.below (Flat.keeps _) hB10) hn1).mono ?_
  rintro e w11 ⟨cc1, rfl, row_cc1, hb11⟩
  have hB11 := step_ hB10 (Nat.le_refl _) hb11
  go_wp2_with fail
  refine (eqIntS_refl x1 _ _ _ (Sl.of_flat (((((row_xx1.below hb7).below hb8).below hb9).below hb10).below hb11)) (Sl.of_flat row_cc1)).mono ?_
  rintro e w12 ⟨rfl, hb12⟩
  have hB12 := step_ hB11 (Nat.le_refl _) hb12
  go_wp2_with fail
  refine (markRunS_fr _ _ _ 1 _ (((((((row_xx0.below hb6).below hb7).below hb8).below hb9).below hb10).below hb11).below hb12) (by omega) (by omega) (lensRun_ kxx0 HN0.out)).mono ?_
  rintro e w13 ⟨mk13, rfl, hm013, hm113, hg13⟩
  have hB13 := below_kept hB12 hg13 (fun k hk => Nat.le_trans hB4.size (row_xx0.lt k hk).1) hB12.size
  have cur13_xx1 := Row.keptOff ((((((row_xx1.below hb7).below hb8).below hb9).below hb10).below hb11).below hb12) hg13 (fun k hk hs => by have h1 := (row_xx1.lt k hk).1; have h2 := (row_xx0.lt k hs).2; have h3 : w5.heap.size ≤ w5.heap.size := (Nat.le_refl _); omega)
  have cur13_sg0 := Row.keptOff (((((row_sg0.below hb8).below hb9).below hb10).below hb11).below hb12) hg13 (fun k hk hs => by have h1 := (row_sg0.lt k hk).1; have h2 := (row_xx0.lt k hs).2; have h3 : w5.heap.size ≤ w6.heap.size := (Nat.le_trans (Nat.le_refl _) hb6.size); omega)
  have cur13_sw0 := Row.keptOff ((((((((row_sw0.below hb5).below hb6).below hb7).below hb8).below hb9).below hb10).below hb11).below hb12) hg13 (fun k hk hs => by have h1 := (row_sw0.lt k hk).2; have h2 := (row_xx0.lt k hs).1; have h3 : w4.heap.size ≤ w4.heap.size := (Nat.le_refl _); omega)
  go_wp2_with fail
  refine (markIntS_any _ _ _ mk13 _ cur13_xx1 (by simp; omega) (by omega) (by omega)).mono ?_
  rintro e w14 ⟨rfl, cur14_xx1, hg14⟩
  simp only [List.length_map] at cur14_xx1 ⊢
  have hB14 := hB13.grown hg14 hB13.size (fun k hk => Nat.le_trans hB5.size (row_xx1.lt k hk).1)
  have hk14 := KeptOff.of_grown (S := fun k => (xx1 : Value).ownBlock = some k) hg14 (fun k hk => hk)
  have cur14_sg0 := Row.keptOff cur13_sg0 hk14 (fun k hk hs => by have h1 := (row_sg0.lt k hk).1; have h2 := (row_xx1.lt k hs).2; have h3 : w6.heap.size ≤ w6.heap.size := (Nat.le_refl _); omega)
  have cur14_sw0 := Row.keptOff cur13_sw0 hk14 (fun k hk hs => by have h1 := (row_sw0.lt k hk).2; have h2 := (row_xx1.lt k hs).1; have h3 : w4.heap.size ≤ w5.heap.size := (Nat.le_trans (Nat.le_refl _) hb5.size); omega)
  go_wp2_with fail
  refine (eqIntS_refl (blV (x0.map Run.k) x1 x2) _ _ _ (Sl.of_flat cur14_sg0) (Sl.of_flat cur14_sw0)).mono ?_
  rintro e w15 ⟨rfl, hb15⟩
  have hB15 := step_ hB14 (Nat.le_refl _) hb15
  go_wp2_with fail
  refine (markIntS_any _ _ _ 1 _ (cur14_sg0.below hb15) (by simp; omega) (by omega) (by omega)).mono ?_
  rintro e w16 ⟨rfl, cur16_sg0, hg16⟩
  simp only [List.length_map] at cur16_sg0 ⊢
  have hB16 := hB15.grown hg16 hB15.size (fun k hk => Nat.le_trans hB6.size (row_sg0.lt k hk).1)
  have hk16 := KeptOff.of_grown (S := fun k => (sg0 : Value).ownBlock = some k) hg16 (fun k hk => hk)
  have cur16_sw0 := Row.keptOff (cur14_sw0.below hb15) hk16 (fun k hk hs => by have h1 := (row_sw0.lt k hk).2; have h2 := (row_sg0.lt k hs).1; have h3 : w4.heap.size ≤ w6.heap.size := (Nat.le_trans (Nat.le_trans (Nat.le_refl _) hb5.size) hb6.size); omega)
  go_wp2_with fail
  refine (heldIntS_any _ (blV (x0.map Run.k) x1 x2).length 1 _ (Sl.of_flat cur16_sg0) (by omega) (by omega) (by omega)).mono ?_
  rintro e w' ⟨rfl, rfl⟩
  go_wp2_with fail
  refine (toRunS_any x0 v0 _ (h0.below hB16) HN0.out.1 HN0.out.2).mono ?_
  rintro e w17 ⟨bb0, zbb0, rfl, kbb0, row_bb0, hb17⟩
  have hB17 := step_ hB16 (Nat.le_refl _) hb17
  go_wp2_with fail
  refine (toIntS_any x1 _ _ (HV1.out.below (Flat.keeps _) hB17) hn1).mono ?_
  rintro e w18 ⟨bb1, rfl, row_bb1, hb18⟩
  have hB18 := step_ hB17 (Nat.le_refl _) hb18
  go_wp2_with fail
  refine (impl_BestLegs zbb0 (x0.map Run.k) bb0 x1 bb1 x2 _ kbb0 (row_bb0.below hb18).s (Sl.of_flat row_bb1) ho1 hi2).mono ?_
  rintro e w19 ⟨sh0, rfl, row_sh0, hb19⟩
  have hB19 := step_ hB18 (Nat.le_refl _) hb19
  go_wp2_with fail
  refine (eqIntS_refl (blV (x0.map Run.k) x1 x2) _ _ _ (Sl.of_flat row_sh0) (Sl.of_flat (((cur16_sw0.below hb17).below hb18).below hb19))).mono ?_
  rintro e w20 ⟨rfl, hb20⟩
  have hB20 := step_ hB19 (Nat.le_refl _) hb20
  go_wp2_with fail
  refine (heldIntS_any _ (blV (x0.map Run.k) x1 x2).length 1 _ (Sl.of_flat ((((cur16_sg0.below hb17).below hb18).below hb19).below hb20)) (by omega) (by omega) (by omega)).mono ?_
  rintro e w' ⟨rfl, rfl⟩
  go_wp2_with fail
  go_ret
  exact ⟨rfl, hB20⟩
end Go.Proofs.Ytojpklpfnmjikaa
