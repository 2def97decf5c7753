/- The walk of the law FnExactGoingOn: it returns true. No condition. -/
import Derived.Test.YtabgmbmaakglkaaHtO
import Derived.Test.YtabgmbmaakglkaaSgB
import Derived.Test.YtabgmbmaakglkaaHtM
namespace Go.Proofs.Ytabgmbmaakglkaa
open Go Go.RowKit

set_option maxRecDepth 100000 in
set_option maxHeartbeats 8000000 in
theorem fnExactGoingOn_walk (x0 : List Ht) (v0 : Value) (x1 : Int) (x2 : Int) (w : World) (h0 : HtS w v0 x0) (_ : ∀ p ∈ x0, p.k.ok) (hi1 : I64 x1) (hi2 : I64 x2) :
    Calls Try.prog 7 #[v0, .int .i64 x1, .int .i64 x2] w fun e w' => e = .returned (.bool true) ∧ Below w.heap.size w w' := by
  go_enter Try.func7, Try.ntmps7
  have hB0 : Below w.heap.size w w := Below.refl _ _
  go_wp2_with fail
  refine (szHeatS_any x0 v0 _ _ (h0.below hB0) (by omega) (by omega)).mono ?_
  rintro e w1 ⟨q0, rfl, HQ0, hql0, hb1⟩
  have hB1 := step_ hB0 (Nat.le_refl _) hb1
  by_cases hq0 : q0 < 0
  · go_wp2_with fail
    go_ret
    exact ⟨rfl, hB1⟩
  have hqq0 : 0 ≤ q0 := by omega
  have HN0 := Lib.hid (HQ0.out hqq0)
  have hlen0 := goF_len (x0.map Ht.k) x1 x2
  have hlen1 := goL_len (x0.map Ht.k) x1 x2
  go_wp2_with fail
  refine (toHeatS_any x0 v0 _ (h0.below hB1) HN0.out.1 HN0.out.2).mono ?_
  rintro e w2 ⟨a0, za0, rfl, ka0, row_a0, hb2⟩
  have hB2 := step_ hB1 (Nat.le_refl _) hb2
  go_wp2_with fail
  refine (spec_GoingOn za0 (x0.map Ht.k) a0 x1 x2 _ ka0 row_a0.s (lenHt ka0 HN0.out.1) hi1 hi2).mono ?_
  rintro e w3 ⟨sw0, sw1, rfl, row_sw0, row_sw1, dis_sw, hb3⟩
  have hB3 := step_ hB2 (Nat.le_refl _) hb3
  go_wp2_with fail
  refine (toHeatS_any x0 v0 _ (h0.below hB3) HN0.out.1 HN0.out.2).mono ?_
  rintro e w4 ⟨xx0, zxx0, rfl, kxx0, row_xx0, hb4⟩
  have hB4 := step_ hB3 (Nat.le_refl _) hb4
  go_wp2_with fail
  refine (impl_GoingOn zxx0 (x0.map Ht.k) xx0 x1 x2 _ kxx0 row_xx0.s (lenHt kxx0 HN0.out.1) hi1 hi2).mono ?_
  rintro e w5 ⟨sg0, sg1, rfl, row_sg0, row_sg1, dis_sg, hb5⟩
  have hB5 := step_ hB4 (Nat.le_refl _) hb5
  go_wp2_with fail
  refine (eqIntS_refl (goF (x0.map Ht.k) x1 x2) _ _ _ (Sl.of_flat row_sg0) (Sl.of_flat ((row_sw0.below hb4).below hb5))).mono ?_
  rintro e w6 ⟨rfl, hb6⟩
  have hB6 := step_ hB5 (Nat.le_refl _) hb6
  go_wp2_with fail
  refine (eqIntS_refl (goL (x0.map Ht.k) x1 x2) _ _ _ (Sl.of_flat (row_sg1.below hb6)) (Sl.of_flat (((row_sw1.below hb4).below hb5).below hb6))).mono ?_
  rintro e w7 ⟨rfl, hb7⟩
  have hB7 := step_ hB6 (Nat.le_refl _) hb7
  go_wp2_with fail
  refine (toHeatS_any x0 v0 _ (h0.below hB7) HN0.out.1 HN0.out.2).mono ?_
  rintro e w8 ⟨cc0, zcc0, rfl, kcc0, row_cc0, hb8⟩
  have hB8 := step_ hB7 (Nat.le_refl _) hb8
  go_wp2_with fail
  refine (eqHeatS_refl zxx0 zcc0 _ _ _ ((((row_xx0.below hb5).below hb6).below hb7).below hb8).s row_cc0.s (kxx0.trans kcc0.symm)).mono ?_
  rintro e w9 ⟨rfl, hb9⟩
  have hB9 := step_ hB8 (Nat.le_refl _) hb9
  go_wp2_with fail
  refine (markHeatS_fr _ _ _ 1 _ (((((row_xx0.below hb5).below hb6).below hb7).below hb8).below hb9) (by omega) (by omega) (lensHt_ kxx0 HN0.out)).mono ?_
  rintro e w10 ⟨mk10, rfl, hm010, hm110, hg10⟩
  have hB10 := below_kept hB9 hg10 (fun k hk => Nat.le_trans hB3.size (row_xx0.lt k hk).1) hB9.size
  have cur10_sg0 := Row.keptOff ((((row_sg0.below hb6).below hb7).below hb8).below hb9) hg10 (fun k hk hs => by have h1 := (row_sg0.lt k hk).1; have h2 := (row_xx0.lt k hs).2; have h3 : w4.heap.size ≤ w4.heap.size := (Nat.le_refl _); omega)
  have cur10_sg1 := Row.keptOff ((((row_sg1.below hb6).below hb7).below hb8).below hb9) hg10 (fun k hk hs => by have h1 := (row_sg1.lt k hk).1; have h2 := (row_xx0.lt k hs).2; have h3 : w4.heap.size ≤ w4.heap.size := (Nat.le_refl _); omega)
  have cur10_sw0 := Row.keptOff ((((((row_sw0.below hb4).below hb5).below hb6).below hb7).below hb8).below hb9) hg10 (fun k hk hs => by have h1 := (row_sw0.lt k hk).2; have h2 := (row_xx0.lt k hs).1; have h3 : w3.heap.size ≤ w3.heap.size := (Nat.le_refl _); omega)
  have cur10_sw1 := Row.keptOff ((((((row_sw1.below hb4).below hb5).below hb6).below hb7).below hb8).below hb9) hg10 (fun k hk hs => by have h1 := (row_sw1.lt k hk).2; have h2 := (row_xx0.lt k hs).1; have h3 : w3.heap.size ≤ w3.heap.size := (Nat.le_refl _); omega)
  go_wp2_with fail
  refine (eqIntS_refl (goF (x0.map Ht.k) x1 x2) _ _ _ (Sl.of_flat cur10_sg0) (Sl.of_flat cur10_sw0)).mono ?_
  rintro e w11 ⟨rfl, hb11⟩
  have hB11 := step_ hB10 (Nat.le_refl _) hb11
  go_wp2_with fail
  refine (eqIntS_refl (goL (x0.map Ht.k) x1 x2) _ _ _ (Sl.of_flat (cur10_sg1.below hb11)) (Sl.of_flat (cur10_sw1.below hb11))).mono ?_
  rintro e w12 ⟨rfl, hb12⟩
  have hB12 := step_ hB11 (Nat.le_refl _) hb12
  go_wp2_with fail
  refine (markIntS_any _ _ _ 1 _ ((cur10_sg0.below hb11).below hb12) (by simp; omega) (by omega) (by omega)).mono ?_
  rintro e w13 ⟨rfl, cur13_sg0, hg13⟩
  simp only [List.length_map] at cur13_sg0 ⊢
  have hB13 := hB12.grown hg13 hB12.size (fun k hk => Nat.le_trans hB4.size (row_sg0.lt k hk).1)
  have hk13 := KeptOff.of_grown (S := fun k => (sg0 : Value).ownBlock = some k) hg13 (fun k hk => hk)
  have cur13_sg1 := Row.keptOff ((cur10_sg1.below hb11).below hb12) hk13 (fun k hk hs => dis_sg k hs hk)
  have cur13_sw0 := Row.keptOff ((cur10_sw0.below hb11).below hb12) hk13 (fun k hk hs => by have h1 := (row_sw0.lt k hk).2; have h2 := (row_sg0.lt k hs).1; have h3 : w3.heap.size ≤ w4.heap.size := (Nat.le_trans (Nat.le_refl _) hb4.size); omega)
  have cur13_sw1 := Row.keptOff ((cur10_sw1.below hb11).below hb12) hk13 (fun k hk hs => by have h1 := (row_sw1.lt k hk).2; have h2 := (row_sg0.lt k hs).1; have h3 : w3.heap.size ≤ w4.heap.size := (Nat.le_trans (Nat.le_refl _) hb4.size); omega)
  go_wp2_with fail
  refine (markIntS_any _ _ _ _ _ cur13_sg1 (by simp; omega) (by omega) (by omega)).mono ?_
  rintro e w14 ⟨rfl, cur14_sg1, hg14⟩
  simp only [List.length_map] at cur14_sg1 ⊢
  have hB14 := hB13.grown hg14 hB13.size (fun k hk => Nat.le_trans hB4.size (row_sg1.lt k hk).1)
  have hk14 := KeptOff.of_grown (S := fun k => (sg1 : Value).ownBlock = some k) hg14 (fun k hk => hk)
  have cur14_sg0 := Row.keptOff cur13_sg0 hk14 (fun k hk hs => dis_sg k hk hs)
  have cur14_sw0 := Row.keptOff cur13_sw0 hk14 (fun k hk hs => by have h1 := (row_sw0.lt k hk).2; have h2 := (row_sg1.lt k hs).1; have h3 : w3.heap.size ≤ w4.heap.size := (Nat.le_trans (Nat.le_refl _) hb4.size); omega)
  have cur14_sw1 := Row.keptOff cur13_sw1 hk14 (fun k hk hs => by have h1 := (row_sw1.lt k hk).2; have h2 := (row_sg1.lt k hs).1; have h3 : w3.heap.size ≤ w4.heap.size := (Nat.le_trans (Nat.le_refl _) hb4.size); omega)
  go_wp2_with fail
  refine (heldIntS_any _ (goF (x0.map Ht.k) x1 x2).length 1 _ (Sl.of_flat cur14_sg0) (by omega) (by omega) (by omega)).mono ?_
  rintro e w' ⟨rfl, rfl⟩
  go_wp2_with fail
  refine (heldIntS_any _ (goL (x0.map Ht.k) x1 x2).length _ _ (Sl.of_flat cur14_sg1) (by omega) (by omega) (by omega)).mono ?_
  rintro e w' ⟨rfl, rfl⟩
  go_wp2_with fail
  refine (toHeatS_any x0 v0 _ (h0.below hB14) HN0.out.1 HN0.out.2).mono ?_
  rintro e w15 ⟨bb0, zbb0, rfl, kbb0, row_bb0, hb15⟩
  have hB15 := step_ hB14 (Nat.le_refl _) hb15
  go_wp2_with fail
  refine (impl_GoingOn zbb0 (x0.map Ht.k) bb0 x1 x2 _ kbb0 row_bb0.s (lenHt kbb0 HN0.out.1) hi1 hi2).mono ?_
  rintro e w16 ⟨sh0, sh1, rfl, row_sh0, row_sh1, dis_sh, hb16⟩
  have hB16 := step_ hB15 (Nat.le_refl _) hb16
  go_wp2_with fail
  refine (eqIntS_refl (goF (x0.map Ht.k) x1 x2) _ _ _ (Sl.of_flat row_sh0) (Sl.of_flat ((cur14_sw0.below hb15).below hb16))).mono ?_
  rintro e w17 ⟨rfl, hb17⟩
  have hB17 := step_ hB16 (Nat.le_refl _) hb17
  go_wp2_with fail
  refine (eqIntS_refl (goL (x0.map Ht.k) x1 x2) _ _ _ (Sl.of_flat (row_sh1.below hb17)) (Sl.of_flat (((cur14_sw1.below hb15).below hb16).below hb17))).mono ?_
  rintro e w18 ⟨rfl, hb18⟩
  have hB18 := step_ hB17 (Nat.le_refl _) hb18
  go_wp2_with fail
  refine (heldIntS_any _ (goF (x0.map Ht.k) x1 x2).length 1 _ (Sl.of_flat ((((cur14_sg0.below hb15).below hb16).below hb17).below hb18)) (by omega) (by omega) (by omega)).mono ?_
  rintro e w' ⟨rfl, rfl⟩
  go_wp2_with fail
  refine (heldIntS_any _ (goL (x0.map Ht.k) x1 x2).length _ _ (Sl.of_flat ((((cur14_sg1.below hb15).below hb16).below hb17).below hb18)) (by omega) (by omega) (by omega)).mono ?_
  rintro e w' ⟨rfl, rfl⟩
  go_wp2_with fail
  go_ret
  exact ⟨rfl, hB18⟩
end Go.Proofs.Ytabgmbmaakglkaa
