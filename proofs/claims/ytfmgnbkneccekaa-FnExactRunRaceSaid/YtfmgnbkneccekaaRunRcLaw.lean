/- The walk of the law FnExactRunRace: it returns true. No condition. -/
import Derived.Test.YtfmgnbkneccekaaStpJ
import Derived.Test.YtfmgnbkneccekaaStpL
import Derived.Test.YtfmgnbkneccekaaRcL
import Derived.Test.YtfmgnbkneccekaaRcH
namespace Go.Proofs.Ytfmgnbkneccekaa
open Go Go.RowKit

set_option maxRecDepth 100000 in
set_option maxHeartbeats 8000000 in
theorem fnExactRunRace_walk (x0 : Race) (x1 : List Step) (v1 : Value) (w : World) (h0 : x0.In w) (_ : x0.k.ok) (h1 : Sl (Flat Step.lst) 3 w v1 x1) (ho1 : ∀ x ∈ x1, Step.ok x) :
    Calls Try.prog 10 #[x0.val, v1] w fun e w' => e = .returned (.bool true) ∧ Below w.heap.size w w' := by
  show Calls Try.prog 10 #[.agg #[.int .i64 x0.clock, .bool x0.closed, .slice x0.a x0.n x0.c], v1] w _
  have hbx0_ := Race.rangeNew w x0 32
  have hW : Below w.heap.size w (w.alloc (.cells #[.int .i64 x0.clock, .bool x0.closed, .slice x0.a x0.n x0.c] 32)) := by (repeat (first | exact Below.refl _ _ | assumption | refine Below.drew ?_ | refine Below.alloc ?_ (by first | exact Nat.le_refl _ | (simp; done) | (simp; omega)) _))
  have h0 := h0.below hW
  have h1 := h1.below (Flat.keeps _) hW
  go_enter Try.func10, Try.ntmps10
  go_wp2_with fail
  generalize (w.alloc (.cells #[.int .i64 x0.clock, .bool x0.closed, .slice x0.a x0.n x0.c] 32)) = w0 at hW hbx0_ h0 h1 ⊢
  have hB0 : Below w0.heap.size w0 w0 := Below.refl _ _
  refine (szRace_any x0 _ _ (h0.below hB0) (by omega) (by omega)).mono ?_
  rintro e w1 ⟨q0, rfl, HQ0, hql0, hb1⟩
  have hB1 := step_ hB0 (Nat.le_refl _) hb1
  have hbc1 := Race.cells (rangeAt_below hbx0_ hB1)
  simp only [Nat.zero_add] at hbc1
  by_cases hq0 : q0 < 0
  · go_wp2_with fail
    go_ret
    exact ⟨rfl, step_ hW (Nat.le_refl _) hB1⟩
  have hqq0 : 0 ≤ q0 := by omega
  have HN0 := Lib.hid (HQ0.out hqq0)
  clear hbc1
  have hbc2 := Race.cells (rangeAt_below hbx0_ hB1)
  simp only [Nat.zero_add] at hbc2
  go_wp2_with fail
  clear hbc2
  by_cases hs1 : q0 < (x1.length : Int)
  · refine (szRaceStepS_any x1 v1 _ _ (h1.below (Flat.keeps _) hB1) (by omega) (by omega)).mono ?_
    rintro e w' ⟨rfl, rfl⟩
    rw [szLeft_big hs1]
    go_wp2_with fail
    go_ret
    exact ⟨rfl, step_ hW (Nat.le_refl _) hB1⟩
  refine (szRaceStepS_any x1 v1 _ _ (h1.below (Flat.keeps _) hB1) (by omega) (by omega)).mono ?_
  rintro e w' ⟨rfl, rfl⟩
  rw [szLeft_fits (by omega)]
  have hn1 : x1.length ≤ 1048576 := by omega
  obtain ⟨q1, hq1⟩ : ∃ q, q = q0 - (x1.length : Int) := ⟨_, rfl⟩
  rw [← hq1]
  have hqq1 : 0 ≤ q1 := by omega
  have hql1 : q1 ≤ 1048576 := by omega
  clear hq1
  have hlen0 := rrV_small x0.k x1
  have hbc3 := Race.cells (rangeAt_below hbx0_ hB1)
  simp only [Nat.zero_add] at hbc3
  go_wp2_with fail
  clear hbc3
  refine (toRace_any x0 _ (h0.below hB1) HN0.out.1 HN0.out.2).mono ?_
  rintro e w2 ⟨a0, he, ka0, row_a0, hb2⟩
  have hB2 := step_ hB1 (Nat.le_refl _) hb2
  obtain rfl : e = .returned (.agg #[.int .i64 a0.clock, .bool a0.closed, .slice a0.a a0.n a0.c]) := he
  have hbc4 := Race.cells (rangeAt_below hbx0_ hB2)
  simp only [Nat.zero_add] at hbc4
  go_wp2_with fail
  clear hbc4
  refine (toRaceStepS_any x1 v1 _ (h1.below (Flat.keeps _) hB2) hn1).mono ?_
  rintro e w3 ⟨a1, rfl, row_a1, hb3⟩
  have hB3 := step_ hB2 (Nat.le_refl _) hb3
  have hbc5 := Race.cells (rangeAt_below hbx0_ hB3)
  simp only [Nat.zero_add] at hbc5
  go_wp2_with fail
  clear hbc5
  refine (spec_RunRace a0 x0.k x1 a1 _ ka0 (row_a0.below hb3).s (Sl.of_flat row_a1) ho1).mono ?_
  rintro e w4 ⟨sw0, rfl, ksw0, row_sw0, hb4⟩
  have hB4 := step_ hB3 (Nat.le_refl _) hb4
  have hbc6 := Race.cells (rangeAt_below hbx0_ hB4)
  simp only [Nat.zero_add] at hbc6
  have hbc7 := Race.cells (rangeAt_below (rangeAt_below hbx0_ hB4) (below_alloc (Below.refl _ _) (.cells #[.int .i64 sw0.clock, .bool sw0.closed, .slice sw0.a sw0.n sw0.c] 24)))
  simp only [Nat.zero_add] at hbc7
  go_wp2_with fail
  clear hbc6 hbc7
  have hb5 : Below w4.heap.size w4 (w4.alloc (.cells #[.int .i64 sw0.clock, .bool sw0.closed, .slice sw0.a sw0.n sw0.c] 24)) := below_alloc (Below.refl _ _) _
  have box_sw0 := Race.rangeNew w4 sw0 24
  have blt_sw0 : w4.heap.size < (w4.alloc (.cells #[.int .i64 sw0.clock, .bool sw0.closed, .slice sw0.a sw0.n sw0.c] 24)).heap.size := by simp
  generalize w4.alloc (.cells #[.int .i64 sw0.clock, .bool sw0.closed, .slice sw0.a sw0.n sw0.c] 24) = w5 at hb5 box_sw0 blt_sw0 ⊢
  have hB5 := step_ hB4 (Nat.le_refl _) hb5
  refine (toRace_any x0 _ (h0.below hB5) HN0.out.1 HN0.out.2).mono ?_
  rintro e w6 ⟨xx0, he, kxx0, row_xx0, hb6⟩
  have hB6 := step_ hB5 (Nat.le_refl _) hb6
  obtain rfl : e = .returned (.agg #[.int .i64 xx0.clock, .bool xx0.closed, .slice xx0.a xx0.n xx0.c]) := he
  have hbc8 := Race.cells (rangeAt_below box_sw0 hb6)
  simp only [Nat.zero_add] at hbc8
  have hbc9 := Race.cells (rangeAt_below hbx0_ hB6)
  simp only [Nat.zero_add] at hbc9
  have hbc10 := Race.cells (rangeAt_below (rangeAt_below box_sw0 hb6) (below_alloc (Below.refl _ _) (.cells #[.int .i64 xx0.clock, .bool xx0.closed, .slice xx0.a xx0.n xx0.c] 24)))
  simp only [Nat.zero_add] at hbc10
  have hbc11 := Race.cells (rangeAt_below (rangeAt_below hbx0_ hB6) (below_alloc (Below.refl _ _) (.cells #[.int .i64 xx0.clock, .bool xx0.closed, .slice xx0.a xx0.n xx0.c] 24)))
  simp only [Nat.zero_add] at hbc11
  go_wp2_with fail
  clear hbc8 hbc9 hbc10 hbc11
  have hb7 : Below w6.heap.size w6 (w6.alloc (.cells #[.int .i64 xx0.clock, .bool xx0.closed, .slice xx0.a xx0.n xx0.c] 24)) := below_alloc (Below.refl _ _) _
  have box_xx0 := Race.rangeNew w6 xx0 24
  have blt_xx0 : w6.heap.size < (w6.alloc (.cells #[.int .i64 xx0.clock, .bool xx0.closed, .slice xx0.a xx0.n xx0.c] 24)).heap.size := by simp
  generalize w6.alloc (.cells #[.int .i64 xx0.clock, .bool xx0.closed, .slice xx0.a xx0.n xx0.c] 24) = w7 at hb7 box_xx0 blt_xx0 ⊢
  have hB7 := step_ hB6 (Nat.le_refl _) hb7
  refine (toRaceStepS_any x1 v1 _ (h1.below (Flat.keeps _) hB7) hn1).mono ?_
  rintro e w8 ⟨xx1, rfl, row_xx1, hb8⟩
  have hB8 := step_ hB7 (Nat.le_refl _) hb8
  have hbc12 := Race.cells (rangeAt_below (rangeAt_below (rangeAt_below box_sw0 hb6) hb7) hb8)
  simp only [Nat.zero_add] at hbc12
  have hbc13 := Race.cells (rangeAt_below box_xx0 hb8)
  simp only [Nat.zero_add] at hbc13
  have hbc14 := Race.cells (rangeAt_below hbx0_ hB8)
  simp only [Nat.zero_add] at hbc14
  go_wp2_with fail
  clear hbc12 hbc13 hbc14
  refine (impl_RunRace xx0 x0.k x1 xx1 _ kxx0 ((row_xx0.below hb7).below hb8).s (Sl.of_flat row_xx1) ho1).mono ?_
  rintro e w9 ⟨sg0, rfl, ksg0, row_sg0, hb9⟩
  have hB9 := step_ hB8 (Nat.le_refl _) hb9
  have hbc15 := Race.cells (rangeAt_below (rangeAt_below (rangeAt_below (rangeAt_below box_sw0 hb6) hb7) hb8) hb9)
  simp only [Nat.zero_add] at hbc15
  have hbc16 := Race.cells (rangeAt_below (rangeAt_below box_xx0 hb8) hb9)
  simp only [Nat.zero_add] at hbc16
  have hbc17 := Race.cells (rangeAt_below hbx0_ hB9)
  simp only [Nat.zero_add] at hbc17
  have hbc18 := Race.cells (rangeAt_below (rangeAt_below (rangeAt_below (rangeAt_below (rangeAt_below box_sw0 hb6) hb7) hb8) hb9) (below_alloc (Below.refl _ _) (.cells #[.int .i64 sg0.clock, .bool sg0.closed, .slice sg0.a sg0.n sg0.c] 24)))
  simp only [Nat.zero_add] at hbc18
  have hbc19 := Race.cells (rangeAt_below (rangeAt_below (rangeAt_below box_xx0 hb8) hb9) (below_alloc (Below.refl _ _) (.cells #[.int .i64 sg0.clock, .bool sg0.closed, .slice sg0.a sg0.n sg0.c] 24)))
  simp only [Nat.zero_add] at hbc19
  have hbc20 := Race.cells (rangeAt_below (rangeAt_below hbx0_ hB9) (below_alloc (Below.refl _ _) (.cells #[.int .i64 sg0.clock, .bool sg0.closed, .slice sg0.a sg0.n sg0.c] 24)))
  simp only [Nat.zero_add] at hbc20
  go_wp2_with fail
  clear hbc15 hbc16 hbc17 hbc18 hbc19 hbc20
  have hb10 : Below w9.heap.size w9 (w9.alloc (.cells #[.int .i64 sg0.clock, .bool sg0.closed, .slice sg0.a sg0.n sg0.c] 24)) := below_alloc (Below.refl _ _) _
  have box_sg0 := Race.rangeNew w9 sg0 24
  have blt_sg0 : w9.heap.size < (w9.alloc (.cells #[.int .i64 sg0.clock, .bool sg0.closed, .slice sg0.a sg0.n sg0.c] 24)).heap.size := by simp
  generalize w9.alloc (.cells #[.int .i64 sg0.clock, .bool sg0.closed, .slice sg0.a sg0.n sg0.c] 24) = w10 at hb10 box_sg0 blt_sg0 ⊢
  have hB10 := step_ hB9 (Nat.le_refl _) hb10
  refine (eqRace_refl sg0 sw0 _ (ksg0.trans ksw0.symm) (row_sg0.below hb10).s ((((((row_sw0.below hb5).below hb6).below hb7).below hb8).below hb9).below hb10).s).mono ?_
  rintro e w11 ⟨rfl, hb11⟩
  have hB11 := step_ hB10 (Nat.le_refl _) hb11
  have hbc21 := Race.cells (rangeAt_below (rangeAt_below (rangeAt_below (rangeAt_below (rangeAt_below (rangeAt_below box_sw0 hb6) hb7) hb8) hb9) hb10) hb11)
  simp only [Nat.zero_add] at hbc21
  have hbc22 := Race.cells (rangeAt_below (rangeAt_below (rangeAt_below (rangeAt_below box_xx0 hb8) hb9) hb10) hb11)
  simp only [Nat.zero_add] at hbc22
  have hbc23 := Race.cells (rangeAt_below box_sg0 hb11)
  simp only [Nat.zero_add] at hbc23
  have hbc24 := Race.cells (rangeAt_below hbx0_ hB11)
  simp only [Nat.zero_add] at hbc24
  go_wp2_with fail
  clear hbc21 hbc22 hbc23 hbc24
  have hb12 : Below w11.heap.size w11 w11.drew := (Below.refl _ _).drew
  have hB12 := step_ hB11 (Nat.le_refl _) hb12
  have hR12 := hb12
  have HH := Lib.hid (show ∀ w', Below w11.heap.size w11 w' → w'.cell? ⟨w6.heap.size, 0, none⟩ = some (.int .i64 xx0.clock) ∧ w'.cell? ⟨w6.heap.size, 1, none⟩ = some (.bool xx0.closed) ∧ w'.cell? ⟨w6.heap.size, 2, none⟩ = some (.slice xx0.a xx0.n xx0.c) ∧ w'.cell? ⟨w.heap.size, 0, none⟩ = some (.int .i64 x0.clock) ∧ w'.cell? ⟨w.heap.size, 1, none⟩ = some (.bool x0.closed) ∧ w'.cell? ⟨w.heap.size, 2, none⟩ = some (.slice x0.a x0.n x0.c) from fun w' hw => by
    have a0 := rangeAt_below (rangeAt_below (rangeAt_below (rangeAt_below (rangeAt_below box_xx0 hb8) hb9) hb10) hb11) hw
    have a0_0 := a0 0 _ rfl
    have a0_1 := a0 1 _ rfl
    have a0_2 := a0 2 _ rfl
    have a1 := rangeAt_below hbx0_ (step_ hB11 (Nat.le_refl _) hw)
    have a1_0 := a1 0 _ rfl
    have a1_1 := a1 1 _ rfl
    have a1_2 := a1 2 _ rfl
    simp only [Nat.zero_add] at a0_0 a0_1 a0_2 a1_0 a1_1 a1_2
    exact ⟨a0_0, a0_1, a0_2, a1_0, a1_1, a1_2⟩)
  go_region_held3 (fun w' => w'.cell? ⟨w6.heap.size, 0, none⟩ = some (.int .i64 xx0.clock) ∧ w'.cell? ⟨w6.heap.size, 1, none⟩ = some (.bool xx0.closed) ∧ w'.cell? ⟨w6.heap.size, 2, none⟩ = some (.slice xx0.a xx0.n xx0.c) ∧ w'.cell? ⟨w.heap.size, 0, none⟩ = some (.int .i64 x0.clock) ∧ w'.cell? ⟨w.heap.size, 1, none⟩ = some (.bool x0.closed) ∧ w'.cell? ⟨w.heap.size, 2, none⟩ = some (.slice x0.a x0.n x0.c)) (exact HH.out _ (by first | (with_reducible exact hR14) | (with_reducible exact hR13) | (with_reducible exact hR12)))
    (first
      | (go_at_call 20; refine (toRace_any x0 _ (h0.below hB12) HN0.out.1 HN0.out.2).mono ?_; rintro e w13 ⟨cc0, he, kcc0, row_cc0, hb13⟩; have hB13 := step_ hB12 (Nat.le_refl _) hb13; obtain rfl : e = .returned (.agg #[.int .i64 cc0.clock, .bool cc0.closed, .slice cc0.a cc0.n cc0.c]) := he; have hR13 := step_ hR12 (Nat.le_refl _) hb13)
      | (go_at_call 15; refine (eqRace_refl xx0 cc0 _ (kxx0.trans kcc0.symm) (((((((row_xx0.below hb7).below hb8).below hb9).below hb10).below hb11).below hb12).below hb13).s row_cc0.s).mono ?_; rintro e w14 ⟨rfl, hb14⟩; have hB14 := step_ hB13 (Nat.le_refl _) hb14; have hR14 := step_ hR13 (Nat.le_refl _) hb14))
  have hbc25 := Race.cells (rangeAt_below (rangeAt_below (rangeAt_below (rangeAt_below (rangeAt_below (rangeAt_below (rangeAt_below (rangeAt_below (rangeAt_below box_sw0 hb6) hb7) hb8) hb9) hb10) hb11) hb12) hb13) hb14)
  simp only [Nat.zero_add] at hbc25
  have hbc26 := Race.cells (rangeAt_below (rangeAt_below (rangeAt_below (rangeAt_below (rangeAt_below (rangeAt_below (rangeAt_below box_xx0 hb8) hb9) hb10) hb11) hb12) hb13) hb14)
  simp only [Nat.zero_add] at hbc26
  have hbc27 := Race.cells (rangeAt_below (rangeAt_below (rangeAt_below (rangeAt_below box_sg0 hb11) hb12) hb13) hb14)
  simp only [Nat.zero_add] at hbc27
  have hbc28 := Race.cells (rangeAt_below hbx0_ hB14)
  simp only [Nat.zero_add] at hbc28
  go_wp2_with fail
  clear hbc25 hbc26 hbc27 hbc28
  refine (toRaceStepS_any x1 v1 _ (h1.below (Flat.keeps _) hB14) hn1).mono ?_
  rintro e w15 ⟨cc1, rfl, row_cc1, hb15⟩
  have hB15 := step_ hB14 (Nat.le_refl _) hb15
  have hbc29 := Race.cells (rangeAt_below (rangeAt_below (rangeAt_below (rangeAt_below (rangeAt_below (rangeAt_below (rangeAt_below (rangeAt_below (rangeAt_below (rangeAt_below box_sw0 hb6) hb7) hb8) hb9) hb10) hb11) hb12) hb13) hb14) hb15)
  simp only [Nat.zero_add] at hbc29
  have hbc30 := Race.cells (rangeAt_below (rangeAt_below (rangeAt_below (rangeAt_below (rangeAt_below (rangeAt_below (rangeAt_below (rangeAt_below box_xx0 hb8) hb9) hb10) hb11) hb12) hb13) hb14) hb15)
  simp only [Nat.zero_add] at hbc30
  have hbc31 := Race.cells (rangeAt_below (rangeAt_below (rangeAt_below (rangeAt_below (rangeAt_below box_sg0 hb11) hb12) hb13) hb14) hb15)
  simp only [Nat.zero_add] at hbc31
  have hbc32 := Race.cells (rangeAt_below hbx0_ hB15)
  simp only [Nat.zero_add] at hbc32
  go_wp2_with fail
  clear hbc29 hbc30 hbc31 hbc32
  refine (eqRaceStepS_refl x1 _ _ _ (Sl.of_flat (((((((row_xx1.below hb9).below hb10).below hb11).below hb12).below hb13).below hb14).below hb15)) (Sl.of_flat row_cc1)).mono ?_
  rintro e w16 ⟨rfl, hb16⟩
  have hB16 := step_ hB15 (Nat.le_refl _) hb16
  have hln_sg0 := lenRace_small ksg0 hlen0
  have hbc33 := Race.cells (rangeAt_below (rangeAt_below (rangeAt_below (rangeAt_below (rangeAt_below (rangeAt_below (rangeAt_below (rangeAt_below (rangeAt_below (rangeAt_below (rangeAt_below box_sw0 hb6) hb7) hb8) hb9) hb10) hb11) hb12) hb13) hb14) hb15) hb16)
  simp only [Nat.zero_add] at hbc33
  have hbc34 := Race.cells (rangeAt_below (rangeAt_below (rangeAt_below (rangeAt_below (rangeAt_below (rangeAt_below (rangeAt_below (rangeAt_below (rangeAt_below box_xx0 hb8) hb9) hb10) hb11) hb12) hb13) hb14) hb15) hb16)
  simp only [Nat.zero_add] at hbc34
  have hbc35 := Race.cells (rangeAt_below (rangeAt_below (rangeAt_below (rangeAt_below (rangeAt_below (rangeAt_below box_sg0 hb11) hb12) hb13) hb14) hb15) hb16)
  simp only [Nat.zero_add] at hbc35
  have hbc36 := Race.cells (rangeAt_below hbx0_ hB16)
  simp only [Nat.zero_add] at hbc36
  go_wp2_with fail
  clear hbc33 hbc34 hbc35 hbc36
  refine (markRace_fr _ xx0 1 _ ((((((((((row_xx0.below hb7).below hb8).below hb9).below hb10).below hb11).below hb12).below hb13).below hb14).below hb15).below hb16) (by omega) (by omega) (lensRace_ kxx0 HN0.out)).mono ?_
  rintro e w17 ⟨mk17, rfl, hm017, hm117, hg17⟩
  have hB17 := below_kept hB16 hg17 (fun k hk => Nat.le_trans hB5.size (row_xx0.lt k hk).1) hB16.size
  have cur17_xx1 := Row.keptOff ((((((((row_xx1.below hb9).below hb10).below hb11).below hb12).below hb13).below hb14).below hb15).below hb16) hg17 (fun k hk hs => by have h1 := (row_xx1.lt k hk).1; have h2 := (row_xx0.lt k hs).2; have h3 : w6.heap.size ≤ w7.heap.size := (Nat.le_trans (Nat.le_refl _) hb7.size); omega)
  have cur17_sg0 := RaceR.keptOff (((((((row_sg0.below hb10).below hb11).below hb12).below hb13).below hb14).below hb15).below hb16) hg17 (fun k hk hs => by have h1 := (row_sg0.lt k hk).1; have h2 := (row_xx0.lt k hs).2; have h3 : w6.heap.size ≤ w8.heap.size := (Nat.le_trans (Nat.le_trans (Nat.le_refl _) hb7.size) hb8.size); omega)
  have cur17_sw0 := RaceR.keptOff ((((((((((((row_sw0.below hb5).below hb6).below hb7).below hb8).below hb9).below hb10).below hb11).below hb12).below hb13).below hb14).below hb15).below hb16) hg17 (fun k hk hs => by have h1 := (row_sw0.lt k hk).2; have h2 := (row_xx0.lt k hs).1; have h3 : w4.heap.size ≤ w5.heap.size := (Nat.le_trans (Nat.le_refl _) hb5.size); omega)
  have bcur17_sw0 := range_keptOff (rangeAt_below (rangeAt_below (rangeAt_below (rangeAt_below (rangeAt_below (rangeAt_below (rangeAt_below (rangeAt_below (rangeAt_below (rangeAt_below (rangeAt_below box_sw0 hb6) hb7) hb8) hb9) hb10) hb11) hb12) hb13) hb14) hb15) hb16) hg17 (fun hs => by have h1 := (row_xx0.lt _ hs).1; have h3 : w5.heap.size ≤ w5.heap.size := (Nat.le_refl _); have h4 := blt_sw0; omega)
  have bcur17_xx0 := range_keptOff (rangeAt_below (rangeAt_below (rangeAt_below (rangeAt_below (rangeAt_below (rangeAt_below (rangeAt_below (rangeAt_below (rangeAt_below box_xx0 hb8) hb9) hb10) hb11) hb12) hb13) hb14) hb15) hb16) hg17 (fun hs => by have h2 := (row_xx0.lt _ hs).2; have h3 : w6.heap.size ≤ w6.heap.size := (Nat.le_refl _); omega)
  have bcur17_sg0 := range_keptOff (rangeAt_below (rangeAt_below (rangeAt_below (rangeAt_below (rangeAt_below (rangeAt_below box_sg0 hb11) hb12) hb13) hb14) hb15) hb16) hg17 (fun hs => by have h2 := (row_xx0.lt _ hs).2; have h3 : w6.heap.size ≤ w9.heap.size := (Nat.le_trans (Nat.le_trans (Nat.le_trans (Nat.le_refl _) hb7.size) hb8.size) hb9.size); omega)
  have hbc37 := Race.cells bcur17_sw0
  simp only [Nat.zero_add] at hbc37
  have hbc38 := Race.cells bcur17_xx0
  simp only [Nat.zero_add] at hbc38
  have hbc39 := Race.cells bcur17_sg0
  simp only [Nat.zero_add] at hbc39
  have hbc40 := Race.cells (rangeAt_below hbx0_ hB17)
  simp only [Nat.zero_add] at hbc40
  go_wp2_with fail
  clear hbc37 hbc38 hbc39 hbc40
  refine (markRaceStepS_any _ _ _ mk17 _ cur17_xx1 (by simp; omega) (by omega) (by omega)).mono ?_
  rintro e w18 ⟨rfl, cur18_xx1, hg18⟩
  simp only [List.length_map] at cur18_xx1 ⊢
  have hB18 := hB17.grown hg18 hB17.size (fun k hk => Nat.le_trans hB7.size (row_xx1.lt k hk).1)
  have hk18 := KeptOff.of_grown (S := fun k => (xx1 : Value).ownBlock = some k) hg18 (fun k hk => hk)
  have cur18_sg0 := RaceR.keptOff cur17_sg0 hk18 (fun k hk hs => by have h1 := (row_sg0.lt k hk).1; have h2 := (row_xx1.lt k hs).2; have h3 : w8.heap.size ≤ w8.heap.size := (Nat.le_refl _); omega)
  have cur18_sw0 := RaceR.keptOff cur17_sw0 hk18 (fun k hk hs => by have h1 := (row_sw0.lt k hk).2; have h2 := (row_xx1.lt k hs).1; have h3 : w4.heap.size ≤ w7.heap.size := (Nat.le_trans (Nat.le_trans (Nat.le_trans (Nat.le_refl _) hb5.size) hb6.size) hb7.size); omega)
  have bcur18_sw0 := range_keptOff bcur17_sw0 hk18 (fun hs => by have h1 := (row_xx1.lt _ hs).1; have h3 : w5.heap.size ≤ w7.heap.size := (Nat.le_trans (Nat.le_trans (Nat.le_refl _) hb6.size) hb7.size); have h4 := blt_sw0; omega)
  have bcur18_xx0 := range_keptOff bcur17_xx0 hk18 (fun hs => by have h1 := (row_xx1.lt _ hs).1; have h3 : w7.heap.size ≤ w7.heap.size := (Nat.le_refl _); have h4 := blt_xx0; omega)
  have bcur18_sg0 := range_keptOff bcur17_sg0 hk18 (fun hs => by have h2 := (row_xx1.lt _ hs).2; have h3 : w8.heap.size ≤ w9.heap.size := (Nat.le_trans (Nat.le_refl _) hb9.size); omega)
  have hbc41 := Race.cells bcur18_sw0
  simp only [Nat.zero_add] at hbc41
  have hbc42 := Race.cells bcur18_xx0
  simp only [Nat.zero_add] at hbc42
  have hbc43 := Race.cells bcur18_sg0
  simp only [Nat.zero_add] at hbc43
  have hbc44 := Race.cells (rangeAt_below hbx0_ hB18)
  simp only [Nat.zero_add] at hbc44
  go_wp2_with fail
  clear hbc41 hbc42 hbc43 hbc44
  refine (eqRace_refl sg0 sw0 _ (ksg0.trans ksw0.symm) cur18_sg0.s cur18_sw0.s).mono ?_
  rintro e w19 ⟨rfl, hb19⟩
  have hB19 := step_ hB18 (Nat.le_refl _) hb19
  have hbc45 := Race.cells (rangeAt_below bcur18_sw0 hb19)
  simp only [Nat.zero_add] at hbc45
  have hbc46 := Race.cells (rangeAt_below bcur18_xx0 hb19)
  simp only [Nat.zero_add] at hbc46
  have hbc47 := Race.cells (rangeAt_below bcur18_sg0 hb19)
  simp only [Nat.zero_add] at hbc47
  have hbc48 := Race.cells (rangeAt_below hbx0_ hB19)
  simp only [Nat.zero_add] at hbc48
  go_wp2_with fail
  clear hbc45 hbc46 hbc47 hbc48
  have hbd_sg0 := entEnd_bd sg0.zs 1 (by omega) (by omega) hln_sg0
  refine (markRace_any _ sg0 1 _ (cur18_sg0.below hb19) (by omega) (by omega) hln_sg0).mono ?_
  rintro e w20 ⟨rfl, ⟨ysg0, rowm_sg0, km_sg0⟩, hg20⟩
  obtain ⟨mk20, HMK_sg0⟩ : ∃ m, m = entEnd 1 (entLens sg0.zs) := ⟨_, rfl⟩
  rw [← HMK_sg0] at hbd_sg0
  simp only [← HMK_sg0]
  have HMK_sg0 := Lib.hid HMK_sg0
  obtain ⟨hbl_sg0, hbu_sg0⟩ := hbd_sg0
  have hB20 := below_kept hB19 hg20 (fun k hk => Nat.le_trans hB8.size (row_sg0.lt k hk).1) hB19.size
  have cur20_sw0 := RaceR.keptOff (cur18_sw0.below hb19) hg20 (fun k hk hs => by have h1 := (row_sw0.lt k hk).2; have h2 := (row_sg0.lt k hs).1; have h3 : w4.heap.size ≤ w8.heap.size := (Nat.le_trans (Nat.le_trans (Nat.le_trans (Nat.le_trans (Nat.le_refl _) hb5.size) hb6.size) hb7.size) hb8.size); omega)
  have bcur20_sw0 := range_keptOff (rangeAt_below bcur18_sw0 hb19) hg20 (fun hs => by have h1 := (row_sg0.lt _ hs).1; have h3 : w5.heap.size ≤ w8.heap.size := (Nat.le_trans (Nat.le_trans (Nat.le_trans (Nat.le_refl _) hb6.size) hb7.size) hb8.size); have h4 := blt_sw0; omega)
  have bcur20_xx0 := range_keptOff (rangeAt_below bcur18_xx0 hb19) hg20 (fun hs => by have h1 := (row_sg0.lt _ hs).1; have h3 : w7.heap.size ≤ w8.heap.size := (Nat.le_trans (Nat.le_refl _) hb8.size); have h4 := blt_xx0; omega)
  have bcur20_sg0 := range_keptOff (rangeAt_below bcur18_sg0 hb19) hg20 (fun hs => by have h2 := (row_sg0.lt _ hs).2; have h3 : w9.heap.size ≤ w9.heap.size := (Nat.le_refl _); omega)
  have hbc49 := Race.cells bcur20_sw0
  simp only [Nat.zero_add] at hbc49
  have hbc50 := Race.cells bcur20_xx0
  simp only [Nat.zero_add] at hbc50
  have hbc51 := Race.cells bcur20_sg0
  simp only [Nat.zero_add] at hbc51
  have hbc52 := Race.cells (rangeAt_below hbx0_ hB20)
  simp only [Nat.zero_add] at hbc52
  go_wp2_with fail
  clear hbc49 hbc50 hbc51 hbc52
  refine (heldRace_any sg0 ysg0 (entLens sg0.zs) 1 _ rowm_sg0.s km_sg0 (by omega) (by omega) (by simp [entLens]; exact hln_sg0.1) (fun a ha => by obtain ⟨z, hz, rfl⟩ := List.mem_map.1 ha; exact hln_sg0.2 z hz)).mono ?_
  rintro e w21 ⟨rfl, hb21⟩
  have hB21 := step_ hB20 (Nat.le_refl _) hb21
  simp only [← HMK_sg0.out]
  have hbc53 := Race.cells (rangeAt_below bcur20_sw0 hb21)
  simp only [Nat.zero_add] at hbc53
  have hbc54 := Race.cells (rangeAt_below bcur20_xx0 hb21)
  simp only [Nat.zero_add] at hbc54
  have hbc55 := Race.cells (rangeAt_below bcur20_sg0 hb21)
  simp only [Nat.zero_add] at hbc55
  have hbc56 := Race.cells (rangeAt_below hbx0_ hB21)
  simp only [Nat.zero_add] at hbc56
  go_wp2_with fail
  clear hbc53 hbc54 hbc55 hbc56
  refine (toRace_any x0 _ (h0.below hB21) HN0.out.1 HN0.out.2).mono ?_
  rintro e w22 ⟨bb0, he, kbb0, row_bb0, hb22⟩
  have hB22 := step_ hB21 (Nat.le_refl _) hb22
  obtain rfl : e = .returned (.agg #[.int .i64 bb0.clock, .bool bb0.closed, .slice bb0.a bb0.n bb0.c]) := he
  have hbc57 := Race.cells (rangeAt_below (rangeAt_below bcur20_sw0 hb21) hb22)
  simp only [Nat.zero_add] at hbc57
  have hbc58 := Race.cells (rangeAt_below (rangeAt_below bcur20_xx0 hb21) hb22)
  simp only [Nat.zero_add] at hbc58
  have hbc59 := Race.cells (rangeAt_below (rangeAt_below bcur20_sg0 hb21) hb22)
  simp only [Nat.zero_add] at hbc59
  have hbc60 := Race.cells (rangeAt_below hbx0_ hB22)
  simp only [Nat.zero_add] at hbc60
  go_wp2_with fail
  clear hbc57 hbc58 hbc59 hbc60
  refine (toRaceStepS_any x1 v1 _ (h1.below (Flat.keeps _) hB22) hn1).mono ?_
  rintro e w23 ⟨bb1, rfl, row_bb1, hb23⟩
  have hB23 := step_ hB22 (Nat.le_refl _) hb23
  have hbc61 := Race.cells (rangeAt_below (rangeAt_below (rangeAt_below bcur20_sw0 hb21) hb22) hb23)
  simp only [Nat.zero_add] at hbc61
  have hbc62 := Race.cells (rangeAt_below (rangeAt_below (rangeAt_below bcur20_xx0 hb21) hb22) hb23)
  simp only [Nat.zero_add] at hbc62
  have hbc63 := Race.cells (rangeAt_below (rangeAt_below (rangeAt_below bcur20_sg0 hb21) hb22) hb23)
  simp only [Nat.zero_add] at hbc63
  have hbc64 := Race.cells (rangeAt_below hbx0_ hB23)
  simp only [Nat.zero_add] at hbc64
  go_wp2_with fail
  clear hbc61 hbc62 hbc63 hbc64
  refine (impl_RunRace bb0 x0.k x1 bb1 _ kbb0 (row_bb0.below hb23).s (Sl.of_flat row_bb1) ho1).mono ?_
  rintro e w24 ⟨sh0, rfl, ksh0, row_sh0, hb24⟩
  have hB24 := step_ hB23 (Nat.le_refl _) hb24
  have hbc65 := Race.cells (rangeAt_below (rangeAt_below (rangeAt_below (rangeAt_below bcur20_sw0 hb21) hb22) hb23) hb24)
  simp only [Nat.zero_add] at hbc65
  have hbc66 := Race.cells (rangeAt_below (rangeAt_below (rangeAt_below (rangeAt_below bcur20_xx0 hb21) hb22) hb23) hb24)
  simp only [Nat.zero_add] at hbc66
  have hbc67 := Race.cells (rangeAt_below (rangeAt_below (rangeAt_below (rangeAt_below bcur20_sg0 hb21) hb22) hb23) hb24)
  simp only [Nat.zero_add] at hbc67
  have hbc68 := Race.cells (rangeAt_below hbx0_ hB24)
  simp only [Nat.zero_add] at hbc68
  have hbc69 := Race.cells (rangeAt_below (rangeAt_below (rangeAt_below (rangeAt_below (rangeAt_below bcur20_sw0 hb21) hb22) hb23) hb24) (below_alloc (Below.refl _ _) (.cells #[.int .i64 sh0.clock, .bool sh0.closed, .slice sh0.a sh0.n sh0.c] 24)))
  simp only [Nat.zero_add] at hbc69
  have hbc70 := Race.cells (rangeAt_below (rangeAt_below (rangeAt_below (rangeAt_below (rangeAt_below bcur20_xx0 hb21) hb22) hb23) hb24) (below_alloc (Below.refl _ _) (.cells #[.int .i64 sh0.clock, .bool sh0.closed, .slice sh0.a sh0.n sh0.c] 24)))
  simp only [Nat.zero_add] at hbc70
  have hbc71 := Race.cells (rangeAt_below (rangeAt_below (rangeAt_below (rangeAt_below (rangeAt_below bcur20_sg0 hb21) hb22) hb23) hb24) (below_alloc (Below.refl _ _) (.cells #[.int .i64 sh0.clock, .bool sh0.closed, .slice sh0.a sh0.n sh0.c] 24)))
  simp only [Nat.zero_add] at hbc71
  have hbc72 := Race.cells (rangeAt_below (rangeAt_below hbx0_ hB24) (below_alloc (Below.refl _ _) (.cells #[.int .i64 sh0.clock, .bool sh0.closed, .slice sh0.a sh0.n sh0.c] 24)))
  simp only [Nat.zero_add] at hbc72
  go_wp2_with fail
  clear hbc65 hbc66 hbc67 hbc68 hbc69 hbc70 hbc71 hbc72
  have hb25 : Below w24.heap.size w24 (w24.alloc (.cells #[.int .i64 sh0.clock, .bool sh0.closed, .slice sh0.a sh0.n sh0.c] 24)) := below_alloc (Below.refl _ _) _
  have box_sh0 := Race.rangeNew w24 sh0 24
  have blt_sh0 : w24.heap.size < (w24.alloc (.cells #[.int .i64 sh0.clock, .bool sh0.closed, .slice sh0.a sh0.n sh0.c] 24)).heap.size := by simp
  generalize w24.alloc (.cells #[.int .i64 sh0.clock, .bool sh0.closed, .slice sh0.a sh0.n sh0.c] 24) = w25 at hb25 box_sh0 blt_sh0 ⊢
  have hB25 := step_ hB24 (Nat.le_refl _) hb25
  refine (eqRace_refl sh0 sw0 _ (ksh0.trans ksw0.symm) (row_sh0.below hb25).s (((((cur20_sw0.below hb21).below hb22).below hb23).below hb24).below hb25).s).mono ?_
  rintro e w26 ⟨rfl, hb26⟩
  have hB26 := step_ hB25 (Nat.le_refl _) hb26
  have hbc73 := Race.cells (rangeAt_below (rangeAt_below (rangeAt_below (rangeAt_below (rangeAt_below (rangeAt_below bcur20_sw0 hb21) hb22) hb23) hb24) hb25) hb26)
  simp only [Nat.zero_add] at hbc73
  have hbc74 := Race.cells (rangeAt_below (rangeAt_below (rangeAt_below (rangeAt_below (rangeAt_below (rangeAt_below bcur20_xx0 hb21) hb22) hb23) hb24) hb25) hb26)
  simp only [Nat.zero_add] at hbc74
  have hbc75 := Race.cells (rangeAt_below (rangeAt_below (rangeAt_below (rangeAt_below (rangeAt_below (rangeAt_below bcur20_sg0 hb21) hb22) hb23) hb24) hb25) hb26)
  simp only [Nat.zero_add] at hbc75
  have hbc76 := Race.cells (rangeAt_below box_sh0 hb26)
  simp only [Nat.zero_add] at hbc76
  have hbc77 := Race.cells (rangeAt_below hbx0_ hB26)
  simp only [Nat.zero_add] at hbc77
  go_wp2_with fail
  clear hbc73 hbc74 hbc75 hbc76 hbc77
  refine (heldRace_any sg0 ysg0 (entLens sg0.zs) 1 _ ((((((rowm_sg0.below hb21).below hb22).below hb23).below hb24).below hb25).below hb26).s km_sg0 (by omega) (by omega) (by simp [entLens]; exact hln_sg0.1) (fun a ha => by obtain ⟨z, hz, rfl⟩ := List.mem_map.1 ha; exact hln_sg0.2 z hz)).mono ?_
  rintro e w27 ⟨rfl, hb27⟩
  have hB27 := step_ hB26 (Nat.le_refl _) hb27
  simp only [← HMK_sg0.out]
  have hbc78 := Race.cells (rangeAt_below (rangeAt_below (rangeAt_below (rangeAt_below (rangeAt_below (rangeAt_below (rangeAt_below bcur20_sw0 hb21) hb22) hb23) hb24) hb25) hb26) hb27)
  simp only [Nat.zero_add] at hbc78
  have hbc79 := Race.cells (rangeAt_below (rangeAt_below (rangeAt_below (rangeAt_below (rangeAt_below (rangeAt_below (rangeAt_below bcur20_xx0 hb21) hb22) hb23) hb24) hb25) hb26) hb27)
  simp only [Nat.zero_add] at hbc79
  have hbc80 := Race.cells (rangeAt_below (rangeAt_below (rangeAt_below (rangeAt_below (rangeAt_below (rangeAt_below (rangeAt_below bcur20_sg0 hb21) hb22) hb23) hb24) hb25) hb26) hb27)
  simp only [Nat.zero_add] at hbc80
  have hbc81 := Race.cells (rangeAt_below (rangeAt_below box_sh0 hb26) hb27)
  simp only [Nat.zero_add] at hbc81
  have hbc82 := Race.cells (rangeAt_below hbx0_ hB27)
  simp only [Nat.zero_add] at hbc82
  go_wp2_with fail
  go_ret
  exact ⟨rfl, step_ hW (Nat.le_refl _) hB27⟩
end Go.Proofs.Ytfmgnbkneccekaa
