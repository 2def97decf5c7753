/- The walk of the law FnExactRoundRank: it returns true. No condition. -/
import Derived.Test.YtabgmbmaakglkaaHtO
import Derived.Test.YtabgmbmaakglkaaSgB
import Derived.Test.YtabgmbmaakglkaaHtM
namespace Go.Proofs.Ytabgmbmaakglkaa
open Go Go.RowKit

set_option maxRecDepth 100000 in
set_option maxHeartbeats 8000000 in
theorem fnExactRoundRank_walk (x0 : List Ht) (v0 : Value) (w : World) (h0 : HtS w v0 x0) (_ : ∀ p ∈ x0, p.k.ok) :
    Calls Try.prog 6 #[v0] w fun e w' => e = .returned (.bool true) ∧ Below w.heap.size w w' := by
  go_enter Try.func6, Try.ntmps6
  have hB0 : Below w.heap.size w w := Below.refl _ _
  go_wp2_with fail
  refine (szHeatS_any x0 v0 _ _ (h0.below hB0) (by omega) (by omega)).mono ?_
  rintro e w1 ⟨q0, rfl, HQ0, hql0, hb1⟩
  have hB1 := step_ hB0 (Nat.le_refl _) hb1
  by_cases hq0 : q0 < 0
  · go_wp2_with fail
    go_ret
    exact ⟨rfl, hB1⟩
  have hqq0 : 0 ≤ q0 := by omega
  have HN0 := Lib.hid (HQ0.out hqq0)
  have hlen0 := rkV_len (x0.map Ht.k)
  go_wp2_with fail
  refine (toHeatS_any x0 v0 _ (h0.below hB1) HN0.out.1 HN0.out.2).mono ?_
  rintro e w2 ⟨a0, za0, rfl, ka0, row_a0, hb2⟩
  have hB2 := step_ hB1 (Nat.le_refl _) hb2
  go_wp2_with fail
  refine (spec_RoundRank za0 (x0.map Ht.k) a0 _ ka0 row_a0.s (lenHt ka0 HN0.out.1)).mono ?_
  rintro e w3 ⟨sw0, rfl, row_sw0, hb3⟩
  have hB3 := step_ hB2 (Nat.le_refl _) hb3
  go_wp2_with fail
  refine (toHeatS_any x0 v0 _ (h0.below hB3) HN0.out.1 HN0.out.2).mono ?_
  rintro e w4 ⟨xx0, zxx0, rfl, kxx0, row_xx0, hb4⟩
  have hB4 := step_ hB3 (Nat.le_refl _) hb4
  go_wp2_with fail
  refine (impl_RoundRank zxx0 (x0.map Ht.k) xx0 _ kxx0 row_xx0.s (lenHt kxx0 HN0.out.1)).mono ?_
  rintro e w5 ⟨sg0, rfl, row_sg0, hb5⟩
  have hB5 := step_ hB4 (Nat.le_refl _) hb5
  go_wp2_with fail
  refine (eqIntS_refl (rkV (x0.map Ht.k)) _ _ _ (Sl.of_flat row_sg0) (Sl.of_flat ((row_sw0.below hb4).below hb5))).mono ?_
  rintro e w6 ⟨rfl, hb6⟩
  have hB6 := step_ hB5 (Nat.le_refl _) hb6
  go_wp2_with fail
  refine (toHeatS_any x0 v0 _ (h0.below hB6) HN0.out.1 HN0.out.2).mono ?_
  rintro e w7 ⟨cc0, zcc0, rfl, kcc0, row_cc0, hb7⟩
  have hB7 := step_ hB6 (Nat.le_refl _) hb7
  go_wp2_with fail
  refine (eqHeatS_refl zxx0 zcc0 _ _ _ (((row_xx0.below hb5).below hb6).below hb7).s row_cc0.s (kxx0.trans kcc0.symm)).mono ?_
  rintro e w8 ⟨rfl, hb8⟩
  have hB8 := step_ hB7 (Nat.le_refl _) hb8
  go_wp2_with fail
  refine (markHeatS_fr _ _ _ 1 _ ((((row_xx0.below hb5).below hb6).below hb7).below hb8) (by omega) (by omega) (lensHt_ kxx0 HN0.out)).mono ?_
  rintro e w9 ⟨mk9, rfl, hm09, hm19, hg9⟩
  have hB9 := below_kept hB8 hg9 (fun k hk => Nat.le_trans hB3.size (row_xx0.lt k hk).1) hB8.size
  have cur9_sg0 := Row.keptOff (((row_sg0.below hb6).below hb7).below hb8) hg9 (fun k hk hs => by have h1 := (row_sg0.lt k hk).1; have h2 := (row_xx0.lt k hs).2; have h3 : w4.heap.size ≤ w4.heap.size := (Nat.le_refl _); omega)
  have cur9_sw0 := Row.keptOff (((((row_sw0.below hb4).below hb5).below hb6).below hb7).below hb8) hg9 (fun k hk hs => by have h1 := (row_sw0.lt k hk).2; have h2 := (row_xx0.lt k hs).1; have h3 : w3.heap.size ≤ w3.heap.size := (Nat.le_refl _); omega)
  go_wp2_with fail
  refine (eqIntS_refl (rkV (x0.map Ht.k)) _ _ _ (Sl.of_flat cur9_sg0) (Sl.of_flat cur9_sw0)).mono ?_
  rintro e w10 ⟨rfl, hb10⟩
  have hB10 := step_ hB9 (Nat.le_refl _) hb10
  go_wp2_with fail
  refine (markIntS_any _ _ _ 1 _ (cur9_sg0.below hb10) (by simp; omega) (by omega) (by omega)).mono ?_
  rintro e w11 ⟨rfl, cur11_sg0, hg11⟩
  simp only [List.length_map] at cur11_sg0 ⊢
  have hB11 := hB10.grown hg11 hB10.size (fun k hk => Nat.le_trans hB4.size (row_sg0.lt k hk).1)
  have hk11 := KeptOff.of_grown (S := fun k => (sg0 : Value).ownBlock = some k) hg11 (fun k hk => hk)
  have cur11_sw0 := Row.keptOff (cur9_sw0.below hb10) hk11 (fun k hk hs => by have h1 := (row_sw0.lt k hk).2; have h2 := (row_sg0.lt k hs).1; have h3 : w3.heap.size ≤ w4.heap.size := (Nat.le_trans (Nat.le_refl _) hb4.size); omega)
  go_wp2_with fail
  refine (heldIntS_any _ (rkV (x0.map Ht.k)).length 1 _ (Sl.of_flat cur11_sg0) (by omega) (by omega) (by omega)).mono ?_
  rintro e w' ⟨rfl, rfl⟩
  go_wp2_with fail
  refine (toHeatS_any x0 v0 _ (h0.below hB11) HN0.out.1 HN0.out.2).mono ?_
  rintro e w12 ⟨bb0, zbb0, rfl, kbb0, row_bb0, hb12⟩
  have hB12 := step_ hB11 (Nat.le_refl _) hb12
  go_wp2_with fail
  refine (impl_RoundRank zbb0 (x0.map Ht.k) bb0 _ kbb0 row_bb0.s (lenHt kbb0 HN0.out.1)).mono ?_
  rintro e w13 ⟨sh0, rfl, row_sh0, hb13⟩
  have hB13 := step_ hB12 (Nat.le_refl _) hb13
  go_wp2_with fail
  refine (eqIntS_refl (rkV (x0.map Ht.k)) _ _ _ (Sl.of_flat row_sh0) (Sl.of_flat ((cur11_sw0.below hb12).below hb13))).mono ?_
  rintro e w14 ⟨rfl, hb14⟩
  have hB14 := step_ hB13 (Nat.le_refl _) hb14
  go_wp2_with fail
  refine (heldIntS_any _ (rkV (x0.map Ht.k)).length 1 _ (Sl.of_flat (((cur11_sg0.below hb12).below hb13).below hb14)) (by omega) (by omega) (by omega)).mono ?_
  rintro e w' ⟨rfl, rfl⟩
  go_wp2_with fail
  go_ret
  exact ⟨rfl, hB14⟩
end Go.Proofs.Ytabgmbmaakglkaa
