/- The walk of the law FnExactPhotoFinish: it returns true. No condition. -/
import Derived.Test.YtabgmbmaakglkaaHtP
import Derived.Test.YtabgmbmaakglkaaSgC
import Derived.Test.YtabgmbmaakglkaaIM
namespace Go.Proofs.Ytabgmbmaakglkaa
open Go Go.RowKit

set_option maxRecDepth 100000 in
set_option maxHeartbeats 8000000 in
theorem fnExactPhotoFinish_walk (x0 : List Ht) (v0 : Value) (x1 : Int) (w : World) (h0 : HtS w v0 x0) (_ : ∀ p ∈ x0, p.k.ok) (hi1 : I64 x1) :
    Calls Try.prog 4 #[v0, .int .i64 x1] w fun e w' => e = .returned (.bool true) ∧ Below w.heap.size w w' := by
  go_enter Try.func4, Try.ntmps4
  have hB0 : Below w.heap.size w w := Below.refl _ _
  go_wp2_with fail
  refine (szHeatS_any x0 v0 _ _ (h0.below hB0) (by omega) (by omega)).mono ?_
  rintro e w1 ⟨q0, rfl, HQ0, hql0, hb1⟩
  have hB1 := step_ hB0 (Nat.le_refl _) hb1
  by_cases hq0 : q0 < 0
  · go_wp2_with fail
    go_ret
    exact ⟨rfl, hB1⟩
  have hqq0 : 0 ≤ q0 := by omega
  have HN0 := Lib.hid (HQ0.out hqq0)
  have hlen0 := phV_small (x0.map Ht.k) x1
  go_wp2_with fail
  refine (toHeatS_any x0 v0 _ (h0.below hB1) HN0.out.1 HN0.out.2).mono ?_
  rintro e w2 ⟨a0, za0, rfl, ka0, row_a0, hb2⟩
  have hB2 := step_ hB1 (Nat.le_refl _) hb2
  go_wp2_with fail
  refine (spec_PhotoFinish za0 (x0.map Ht.k) a0 x1 _ ka0 row_a0.s (lenHt ka0 HN0.out.1) hi1).mono ?_
  rintro e w3 ⟨sw0, zsw0, rfl, ksw0, row_sw0, hb3⟩
  have hB3 := step_ hB2 (Nat.le_refl _) hb3
  go_wp2_with fail
  refine (toHeatS_any x0 v0 _ (h0.below hB3) HN0.out.1 HN0.out.2).mono ?_
  rintro e w4 ⟨xx0, zxx0, rfl, kxx0, row_xx0, hb4⟩
  have hB4 := step_ hB3 (Nat.le_refl _) hb4
  go_wp2_with fail
  refine (impl_PhotoFinish zxx0 (x0.map Ht.k) xx0 x1 _ kxx0 row_xx0.s (lenHt kxx0 HN0.out.1) hi1).mono ?_
  rintro e w5 ⟨sg0, zsg0, rfl, ksg0, row_sg0, hb5⟩
  have hB5 := step_ hB4 (Nat.le_refl _) hb5
  go_wp2_with fail
  refine (eqIntSS_refl zsg0 zsw0 _ _ _ row_sg0.s ((row_sw0.below hb4).below hb5).s (ksg0.trans ksw0.symm)).mono ?_
  rintro e w6 ⟨rfl, hb6⟩
  have hB6 := step_ hB5 (Nat.le_refl _) hb6
  go_wp2_with fail
  refine (toHeatS_any x0 v0 _ (h0.below hB6) HN0.out.1 HN0.out.2).mono ?_
  rintro e w7 ⟨cc0, zcc0, rfl, kcc0, row_cc0, hb7⟩
  have hB7 := step_ hB6 (Nat.le_refl _) hb7
  go_wp2_with fail
  refine (eqHeatS_refl zxx0 zcc0 _ _ _ (((row_xx0.below hb5).below hb6).below hb7).s row_cc0.s (kxx0.trans kcc0.symm)).mono ?_
  rintro e w8 ⟨rfl, hb8⟩
  have hB8 := step_ hB7 (Nat.le_refl _) hb8
  have hln_sg0 := lenIL_small ksg0 hlen0
  go_wp2_with fail
  refine (markHeatS_fr _ _ _ 1 _ ((((row_xx0.below hb5).below hb6).below hb7).below hb8) (by omega) (by omega) (lensHt_ kxx0 HN0.out)).mono ?_
  rintro e w9 ⟨mk9, rfl, hm09, hm19, hg9⟩
  have hB9 := below_kept hB8 hg9 (fun k hk => Nat.le_trans hB3.size (row_xx0.lt k hk).1) hB8.size
  have cur9_sg0 := ILR.keptOff (((row_sg0.below hb6).below hb7).below hb8) hg9 (fun k hk hs => by have h1 := (row_sg0.lt k hk).1; have h2 := (row_xx0.lt k hs).2; have h3 : w4.heap.size ≤ w4.heap.size := (Nat.le_refl _); omega)
  have cur9_sw0 := ILR.keptOff (((((row_sw0.below hb4).below hb5).below hb6).below hb7).below hb8) hg9 (fun k hk hs => by have h1 := (row_sw0.lt k hk).2; have h2 := (row_xx0.lt k hs).1; have h3 : w3.heap.size ≤ w3.heap.size := (Nat.le_refl _); omega)
  go_wp2_with fail
  refine (eqIntSS_refl zsg0 zsw0 _ _ _ cur9_sg0.s cur9_sw0.s (ksg0.trans ksw0.symm)).mono ?_
  rintro e w10 ⟨rfl, hb10⟩
  have hB10 := step_ hB9 (Nat.le_refl _) hb10
  go_wp2_with fail
  have hbd_sg0 := iLEnd_bd zsg0 1 (by omega) (by omega) hln_sg0
  refine (markIntSS_any _ _ _ 1 _ (cur9_sg0.below hb10) (by omega) (by omega) hln_sg0).mono ?_
  rintro e w11 ⟨rfl, ⟨ysg0, rowm_sg0, km_sg0⟩, hg11⟩
  obtain ⟨mk11, HMK_sg0⟩ : ∃ m, m = iLEnd 1 (iLLens zsg0) := ⟨_, rfl⟩
  rw [← HMK_sg0] at hbd_sg0
  simp only [← HMK_sg0]
  have HMK_sg0 := Lib.hid HMK_sg0
  obtain ⟨hbl_sg0, hbu_sg0⟩ := hbd_sg0
  have hB11 := below_kept hB10 hg11 (fun k hk => Nat.le_trans hB4.size (row_sg0.lt k hk).1) hB10.size
  have cur11_sw0 := ILR.keptOff (cur9_sw0.below hb10) hg11 (fun k hk hs => by have h1 := (row_sw0.lt k hk).2; have h2 := (row_sg0.lt k hs).1; have h3 : w3.heap.size ≤ w4.heap.size := (Nat.le_trans (Nat.le_refl _) hb4.size); omega)
  go_wp2_with fail
  refine (heldIntSS_any _ ysg0 (iLLens zsg0) 1 _ rowm_sg0.s km_sg0 (by omega) (by omega) (by simp [iLLens]; exact hln_sg0.1) (fun a ha => by obtain ⟨z, hz, rfl⟩ := List.mem_map.1 ha; exact hln_sg0.2 z hz)).mono ?_
  rintro e w' ⟨rfl, rfl⟩
  simp only [← HMK_sg0.out]
  go_wp2_with fail
  refine (toHeatS_any x0 v0 _ (h0.below hB11) HN0.out.1 HN0.out.2).mono ?_
  rintro e w12 ⟨bb0, zbb0, rfl, kbb0, row_bb0, hb12⟩
  have hB12 := step_ hB11 (Nat.le_refl _) hb12
  go_wp2_with fail
  refine (impl_PhotoFinish zbb0 (x0.map Ht.k) bb0 x1 _ kbb0 row_bb0.s (lenHt kbb0 HN0.out.1) hi1).mono ?_
  rintro e w13 ⟨sh0, zsh0, rfl, ksh0, row_sh0, hb13⟩
  have hB13 := step_ hB12 (Nat.le_refl _) hb13
  go_wp2_with fail
  refine (eqIntSS_refl zsh0 zsw0 _ _ _ row_sh0.s ((cur11_sw0.below hb12).below hb13).s (ksh0.trans ksw0.symm)).mono ?_
  rintro e w14 ⟨rfl, hb14⟩
  have hB14 := step_ hB13 (Nat.le_refl _) hb14
  go_wp2_with fail
  refine (heldIntSS_any _ ysg0 (iLLens zsg0) 1 _ (((rowm_sg0.below hb12).below hb13).below hb14).s km_sg0 (by omega) (by omega) (by simp [iLLens]; exact hln_sg0.1) (fun a ha => by obtain ⟨z, hz, rfl⟩ := List.mem_map.1 ha; exact hln_sg0.2 z hz)).mono ?_
  rintro e w' ⟨rfl, rfl⟩
  simp only [← HMK_sg0.out]
  go_wp2_with fail
  go_ret
  exact ⟨rfl, hB14⟩
end Go.Proofs.Ytabgmbmaakglkaa
