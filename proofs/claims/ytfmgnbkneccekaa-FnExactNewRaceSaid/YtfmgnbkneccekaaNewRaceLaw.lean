/- The walk of the law FnExactNewRace: it returns true. No condition. -/
import Derived.Test.YtfmgnbkneccekaaRcH
import Derived.Test.YtfmgnbkneccekaaRcL
namespace Go.Proofs.Ytfmgnbkneccekaa
open Go Go.RowKit

set_option maxRecDepth 100000 in
set_option maxHeartbeats 8000000 in
theorem fnExactNewRace_walk (x0 : Int) (w : World) (hi0 : I64 x0) :
    Calls Try.prog 3 #[.int .i64 x0] w fun e w' => e = .returned (.bool true) ∧ Below w.heap.size w w' := by
  go_enter Try.func3, Try.ntmps3
  have hB0 : Below w.heap.size w w := Below.refl _ _
  have hlen0 := newV_small x0
  go_wp2_with fail
  refine (spec_NewRace x0 _ hi0).mono ?_
  rintro e w1 ⟨sw0, rfl, ksw0, row_sw0, hb1⟩
  have hB1 := step_ hB0 (Nat.le_refl _) hb1
  go_wp2_with fail
  have hb2 : Below w1.heap.size w1 (w1.alloc (.cells #[.int .i64 sw0.clock, .bool sw0.closed, .slice sw0.a sw0.n sw0.c] 24)) := below_alloc (Below.refl _ _) _
  have box_sw0 := Race.rangeNew w1 sw0 24
  have blt_sw0 : w1.heap.size < (w1.alloc (.cells #[.int .i64 sw0.clock, .bool sw0.closed, .slice sw0.a sw0.n sw0.c] 24)).heap.size := by simp
  generalize w1.alloc (.cells #[.int .i64 sw0.clock, .bool sw0.closed, .slice sw0.a sw0.n sw0.c] 24) = w2 at hb2 box_sw0 blt_sw0 ⊢
  have hB2 := step_ hB1 (Nat.le_refl _) hb2
  refine (impl_NewRace x0 _ hi0).mono ?_
  rintro e w3 ⟨sg0, rfl, ksg0, row_sg0, hb3⟩
  have hB3 := step_ hB2 (Nat.le_refl _) hb3
  have hbc1 := Race.cells (rangeAt_below box_sw0 hb3)
  simp only [Nat.zero_add] at hbc1
  have hbc2 := Race.cells (rangeAt_below (rangeAt_below box_sw0 hb3) (below_alloc (Below.refl _ _) (.cells #[.int .i64 sg0.clock, .bool sg0.closed, .slice sg0.a sg0.n sg0.c] 24)))
  simp only [Nat.zero_add] at hbc2
  go_wp2_with fail
  clear hbc1 hbc2
  have hb4 : Below w3.heap.size w3 (w3.alloc (.cells #[.int .i64 sg0.clock, .bool sg0.closed, .slice sg0.a sg0.n sg0.c] 24)) := below_alloc (Below.refl _ _) _
  have box_sg0 := Race.rangeNew w3 sg0 24
  have blt_sg0 : w3.heap.size < (w3.alloc (.cells #[.int .i64 sg0.clock, .bool sg0.closed, .slice sg0.a sg0.n sg0.c] 24)).heap.size := by simp
  generalize w3.alloc (.cells #[.int .i64 sg0.clock, .bool sg0.closed, .slice sg0.a sg0.n sg0.c] 24) = w4 at hb4 box_sg0 blt_sg0 ⊢
  have hB4 := step_ hB3 (Nat.le_refl _) hb4
  refine (eqRace_refl sg0 sw0 _ (ksg0.trans ksw0.symm) (row_sg0.below hb4).s (((row_sw0.below hb2).below hb3).below hb4).s).mono ?_
  rintro e w5 ⟨rfl, hb5⟩
  have hB5 := step_ hB4 (Nat.le_refl _) hb5
  have hln_sg0 := lenRace_small ksg0 hlen0
  have hbc3 := Race.cells (rangeAt_below (rangeAt_below (rangeAt_below box_sw0 hb3) hb4) hb5)
  simp only [Nat.zero_add] at hbc3
  have hbc4 := Race.cells (rangeAt_below box_sg0 hb5)
  simp only [Nat.zero_add] at hbc4
  go_wp2_with fail
  clear hbc3 hbc4
  have hbd_sg0 := entEnd_bd sg0.zs 1 (by omega) (by omega) hln_sg0
  refine (markRace_any _ sg0 1 _ ((row_sg0.below hb4).below hb5) (by omega) (by omega) hln_sg0).mono ?_
  rintro e w6 ⟨rfl, ⟨ysg0, rowm_sg0, km_sg0⟩, hg6⟩
  obtain ⟨mk6, HMK_sg0⟩ : ∃ m, m = entEnd 1 (entLens sg0.zs) := ⟨_, rfl⟩
  rw [← HMK_sg0] at hbd_sg0
  simp only [← HMK_sg0]
  have HMK_sg0 := Lib.hid HMK_sg0
  obtain ⟨hbl_sg0, hbu_sg0⟩ := hbd_sg0
  have hB6 := below_kept hB5 hg6 (fun k hk => Nat.le_trans hB2.size (row_sg0.lt k hk).1) hB5.size
  have cur6_sw0 := RaceR.keptOff ((((row_sw0.below hb2).below hb3).below hb4).below hb5) hg6 (fun k hk hs => by have h1 := (row_sw0.lt k hk).2; have h2 := (row_sg0.lt k hs).1; have h3 : w1.heap.size ≤ w2.heap.size := (Nat.le_trans (Nat.le_refl _) hb2.size); omega)
  have bcur6_sw0 := range_keptOff (rangeAt_below (rangeAt_below (rangeAt_below box_sw0 hb3) hb4) hb5) hg6 (fun hs => by have h1 := (row_sg0.lt _ hs).1; have h3 : w2.heap.size ≤ w2.heap.size := (Nat.le_refl _); have h4 := blt_sw0; omega)
  have bcur6_sg0 := range_keptOff (rangeAt_below box_sg0 hb5) hg6 (fun hs => by have h2 := (row_sg0.lt _ hs).2; have h3 : w3.heap.size ≤ w3.heap.size := (Nat.le_refl _); omega)
  have hbc5 := Race.cells bcur6_sw0
  simp only [Nat.zero_add] at hbc5
  have hbc6 := Race.cells bcur6_sg0
  simp only [Nat.zero_add] at hbc6
  go_wp2_with fail
  clear hbc5 hbc6
  refine (heldRace_any sg0 ysg0 (entLens sg0.zs) 1 _ rowm_sg0.s km_sg0 (by omega) (by omega) (by simp [entLens]; exact hln_sg0.1) (fun a ha => by obtain ⟨z, hz, rfl⟩ := List.mem_map.1 ha; exact hln_sg0.2 z hz)).mono ?_
  rintro e w7 ⟨rfl, hb7⟩
  have hB7 := step_ hB6 (Nat.le_refl _) hb7
  simp only [← HMK_sg0.out]
  have hbc7 := Race.cells (rangeAt_below bcur6_sw0 hb7)
  simp only [Nat.zero_add] at hbc7
  have hbc8 := Race.cells (rangeAt_below bcur6_sg0 hb7)
  simp only [Nat.zero_add] at hbc8
  go_wp2_with fail
  clear hbc7 hbc8
  refine (impl_NewRace x0 _ hi0).mono ?_
  rintro e w8 ⟨sh0, rfl, ksh0, row_sh0, hb8⟩
  have hB8 := step_ hB7 (Nat.le_refl _) hb8
  have hbc9 := Race.cells (rangeAt_below (rangeAt_below bcur6_sw0 hb7) hb8)
  simp only [Nat.zero_add] at hbc9
  have hbc10 := Race.cells (rangeAt_below (rangeAt_below bcur6_sg0 hb7) hb8)
  simp only [Nat.zero_add] at hbc10
  have hbc11 := Race.cells (rangeAt_below (rangeAt_below (rangeAt_below bcur6_sw0 hb7) hb8) (below_alloc (Below.refl _ _) (.cells #[.int .i64 sh0.clock, .bool sh0.closed, .slice sh0.a sh0.n sh0.c] 24)))
  simp only [Nat.zero_add] at hbc11
  have hbc12 := Race.cells (rangeAt_below (rangeAt_below (rangeAt_below bcur6_sg0 hb7) hb8) (below_alloc (Below.refl _ _) (.cells #[.int .i64 sh0.clock, .bool sh0.closed, .slice sh0.a sh0.n sh0.c] 24)))
  simp only [Nat.zero_add] at hbc12
  go_wp2_with fail
  clear hbc9 hbc10 hbc11 hbc12
  have hb9 : Below w8.heap.size w8 (w8.alloc (.cells #[.int .i64 sh0.clock, .bool sh0.closed, .slice sh0.a sh0.n sh0.c] 24)) := below_alloc (Below.refl _ _) _
  have box_sh0 := Race.rangeNew w8 sh0 24
  have blt_sh0 : w8.heap.size < (w8.alloc (.cells #[.int .i64 sh0.clock, .bool sh0.closed, .slice sh0.a sh0.n sh0.c] 24)).heap.size := by simp
  generalize w8.alloc (.cells #[.int .i64 sh0.clock, .bool sh0.closed, .slice sh0.a sh0.n sh0.c] 24) = w9 at hb9 box_sh0 blt_sh0 ⊢
  have hB9 := step_ hB8 (Nat.le_refl _) hb9
  refine (eqRace_refl sh0 sw0 _ (ksh0.trans ksw0.symm) (row_sh0.below hb9).s (((cur6_sw0.below hb7).below hb8).below hb9).s).mono ?_
  rintro e w10 ⟨rfl, hb10⟩
  have hB10 := step_ hB9 (Nat.le_refl _) hb10
  have hbc13 := Race.cells (rangeAt_below (rangeAt_below (rangeAt_below (rangeAt_below bcur6_sw0 hb7) hb8) hb9) hb10)
  simp only [Nat.zero_add] at hbc13
  have hbc14 := Race.cells (rangeAt_below (rangeAt_below (rangeAt_below (rangeAt_below bcur6_sg0 hb7) hb8) hb9) hb10)
  simp only [Nat.zero_add] at hbc14
  have hbc15 := Race.cells (rangeAt_below box_sh0 hb10)
  simp only [Nat.zero_add] at hbc15
  go_wp2_with fail
  clear hbc13 hbc14 hbc15
  refine (heldRace_any sg0 ysg0 (entLens sg0.zs) 1 _ ((((rowm_sg0.below hb7).below hb8).below hb9).below hb10).s km_sg0 (by omega) (by omega) (by simp [entLens]; exact hln_sg0.1) (fun a ha => by obtain ⟨z, hz, rfl⟩ := List.mem_map.1 ha; exact hln_sg0.2 z hz)).mono ?_
  rintro e w11 ⟨rfl, hb11⟩
  have hB11 := step_ hB10 (Nat.le_refl _) hb11
  simp only [← HMK_sg0.out]
  have hbc16 := Race.cells (rangeAt_below (rangeAt_below (rangeAt_below (rangeAt_below (rangeAt_below bcur6_sw0 hb7) hb8) hb9) hb10) hb11)
  simp only [Nat.zero_add] at hbc16
  have hbc17 := Race.cells (rangeAt_below (rangeAt_below (rangeAt_below (rangeAt_below (rangeAt_below bcur6_sg0 hb7) hb8) hb9) hb10) hb11)
  simp only [Nat.zero_add] at hbc17
  have hbc18 := Race.cells (rangeAt_below (rangeAt_below box_sh0 hb10) hb11)
  simp only [Nat.zero_add] at hbc18
  go_wp2_with fail
  go_ret
  exact ⟨rfl, hB11⟩
end Go.Proofs.Ytfmgnbkneccekaa
