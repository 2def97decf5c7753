/- The walk of the law FnExactAddSplit: it returns true. No condition. -/
import Derived.Test.YtbeonigmcbipeaaAddS
import Derived.Test.YtbeonigmcbipeaaPasN
import Derived.Test.YtbeonigmcbipeaaPasL
namespace Go.Proofs.Ytbeonigmcbipeaa
open Go Go.RowKit

set_option maxRecDepth 100000 in
set_option maxHeartbeats 8000000 in
theorem fnExactAddSplit_walk (x0 : List Pas) (v0 : Value) (x1 : Int) (x2 : Int) (w : World) (h0 : PasS w v0 x0) (_ : ∀ p ∈ x0, p.ok) (hi1 : I64 x1) (hi2 : I64 x2) :
    Calls Try.prog 5 #[v0, .int .i64 x1, .int .i64 x2] w fun e w' => e = .returned (.bool true) ∧ Below w.heap.size w w' := by
  go_enter Try.func5, Try.ntmps5
  have hB0 : Below w.heap.size w w := Below.refl _ _
  go_wp2_with fail
  refine (szPassingS_any x0 v0 _ _ (h0.below hB0) (by omega) (by omega)).mono ?_
  rintro e w1 ⟨q0, rfl, HQ0, hql0, hb1⟩
  have hB1 := step_ hB0 (Nat.le_refl _) hb1
  by_cases hq0 : q0 < 0
  · go_wp2_with fail
    go_ret
    exact ⟨rfl, hB1⟩
  have hqq0 : 0 ≤ q0 := by omega
  have HN0 := Lib.hid (HQ0.out hqq0)
  have hlen0 := addL_small (x0.map Pas.k) x1 x2
  go_wp2_with fail
  refine (toPassingS_any x0 v0 _ (h0.below hB1) HN0.out.1 HN0.out.2).mono ?_
  rintro e w2 ⟨a0, za0, rfl, ka0, row_a0, hb2⟩
  have hB2 := step_ hB1 (Nat.le_refl _) hb2
  go_wp2_with fail
  refine (spec_AddSplit za0 (x0.map Pas.k) a0 x1 x2 _ ka0 row_a0.s hi1 hi2).mono ?_
  rintro e w3 ⟨sw0, zsw0, rfl, ksw0, row_sw0, hb3⟩
  have hB3 := step_ hB2 (Nat.le_refl _) hb3
  go_wp2_with fail
  refine (toPassingS_any x0 v0 _ (h0.below hB3) HN0.out.1 HN0.out.2).mono ?_
  rintro e w4 ⟨xx0, zxx0, rfl, kxx0, row_xx0, hb4⟩
  have hB4 := step_ hB3 (Nat.le_refl _) hb4
  go_wp2_with fail
  refine (impl_AddSplit zxx0 (x0.map Pas.k) xx0 x1 x2 _ kxx0 row_xx0.s hi1 hi2).mono ?_
  rintro e w5 ⟨sg0, zsg0, rfl, ksg0, row_sg0, hb5⟩
  have hB5 := step_ hB4 (Nat.le_refl _) hb5
  go_wp2_with fail
  refine (eqPassingS_refl zsg0 zsw0 _ _ _ row_sg0.s ((row_sw0.below hb4).below hb5).s (ksg0.trans ksw0.symm)).mono ?_
  rintro e w6 ⟨rfl, hb6⟩
  have hB6 := step_ hB5 (Nat.le_refl _) hb6
  go_wp2_with fail
  refine (toPassingS_any x0 v0 _ (h0.below hB6) HN0.out.1 HN0.out.2).mono ?_
  rintro e w7 ⟨cc0, zcc0, rfl, kcc0, row_cc0, hb7⟩
  have hB7 := step_ hB6 (Nat.le_refl _) hb7
  go_wp2_with fail
  refine (eqPassingS_refl zxx0 zcc0 _ _ _ (((row_xx0.below hb5).below hb6).below hb7).s row_cc0.s (kxx0.trans kcc0.symm)).mono ?_
  rintro e w8 ⟨rfl, hb8⟩
  have hB8 := step_ hB7 (Nat.le_refl _) hb8
  have hln_sg0 := lenPas_small ksg0 hlen0
  go_wp2_with fail
  refine (markPassingS_fr _ _ _ 1 _ ((((row_xx0.below hb5).below hb6).below hb7).below hb8) (by omega) (by omega) (lensPas_ kxx0 HN0.out)).mono ?_
  rintro e w9 ⟨mk9, rfl, hm09, hm19, hg9⟩
  have hB9 := below_kept hB8 hg9 (fun k hk => Nat.le_trans hB3.size (row_xx0.lt k hk).1) hB8.size
  have cur9_sg0 := PasR.keptOff (((row_sg0.below hb6).below hb7).below hb8) hg9 (fun k hk hs => by have h1 := (row_sg0.lt k hk).1; have h2 := (row_xx0.lt k hs).2; have h3 : w4.heap.size ≤ w4.heap.size := (Nat.le_refl _); omega)
  have cur9_sw0 := PasR.keptOff (((((row_sw0.below hb4).below hb5).below hb6).below hb7).below hb8) hg9 (fun k hk hs => by have h1 := (row_sw0.lt k hk).2; have h2 := (row_xx0.lt k hs).1; have h3 : w3.heap.size ≤ w3.heap.size := (Nat.le_refl _); omega)
  go_wp2_with fail
  refine (eqPassingS_refl zsg0 zsw0 _ _ _ cur9_sg0.s cur9_sw0.s (ksg0.trans ksw0.symm)).mono ?_
  rintro e w10 ⟨rfl, hb10⟩
  have hB10 := step_ hB9 (Nat.le_refl _) hb10
  go_wp2_with fail
  have hbd_sg0 := pasEnd_bd zsg0 1 (by omega) (by omega) hln_sg0
  refine (markPassingS_any _ _ _ 1 _ (cur9_sg0.below hb10) (by omega) (by omega) hln_sg0).mono ?_
  rintro e w11 ⟨rfl, ⟨ysg0, rowm_sg0, km_sg0⟩, hg11⟩
  obtain ⟨mk11, HMK_sg0⟩ : ∃ m, m = pasEnd 1 (pasLens zsg0) := ⟨_, rfl⟩
  rw [← HMK_sg0] at hbd_sg0
  simp only [← HMK_sg0]
  have HMK_sg0 := Lib.hid HMK_sg0
  obtain ⟨hbl_sg0, hbu_sg0⟩ := hbd_sg0
  have hB11 := below_kept hB10 hg11 (fun k hk => Nat.le_trans hB4.size (row_sg0.lt k hk).1) hB10.size
  have cur11_sw0 := PasR.keptOff (cur9_sw0.below hb10) hg11 (fun k hk hs => by have h1 := (row_sw0.lt k hk).2; have h2 := (row_sg0.lt k hs).1; have h3 : w3.heap.size ≤ w4.heap.size := (Nat.le_trans (Nat.le_refl _) hb4.size); omega)
  go_wp2_with fail
  refine (heldPassingS_any _ ysg0 (pasLens zsg0) 1 _ rowm_sg0.s km_sg0 (by omega) (by omega) (by simp [pasLens]; exact hln_sg0.1) (fun a ha => by obtain ⟨z, hz, rfl⟩ := List.mem_map.1 ha; exact hln_sg0.2 z hz)).mono ?_
  rintro e w' ⟨rfl, rfl⟩
  simp only [← HMK_sg0.out]
  go_wp2_with fail
  refine (toPassingS_any x0 v0 _ (h0.below hB11) HN0.out.1 HN0.out.2).mono ?_
  rintro e w12 ⟨bb0, zbb0, rfl, kbb0, row_bb0, hb12⟩
  have hB12 := step_ hB11 (Nat.le_refl _) hb12
  go_wp2_with fail
  refine (impl_AddSplit zbb0 (x0.map Pas.k) bb0 x1 x2 _ kbb0 row_bb0.s hi1 hi2).mono ?_
  rintro e w13 ⟨sh0, zsh0, rfl, ksh0, row_sh0, hb13⟩
  have hB13 := step_ hB12 (Nat.le_refl _) hb13
  go_wp2_with fail
  refine (eqPassingS_refl zsh0 zsw0 _ _ _ row_sh0.s ((cur11_sw0.below hb12).below hb13).s (ksh0.trans ksw0.symm)).mono ?_
  rintro e w14 ⟨rfl, hb14⟩
  have hB14 := step_ hB13 (Nat.le_refl _) hb14
  go_wp2_with fail
  refine (heldPassingS_any _ ysg0 (pasLens zsg0) 1 _ (((rowm_sg0.below hb12).below hb13).below hb14).s km_sg0 (by omega) (by omega) (by simp [pasLens]; exact hln_sg0.1) (fun a ha => by obtain ⟨z, hz, rfl⟩ := List.mem_map.1 ha; exact hln_sg0.2 z hz)).mono ?_
  rintro e w' ⟨rfl, rfl⟩
  simp only [← HMK_sg0.out]
  go_wp2_with fail
  go_ret
  exact ⟨rfl, hB14⟩
end Go.Proofs.Ytbeonigmcbipeaa
