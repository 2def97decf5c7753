/- The walk of the law FnExactIsRace: it returns true. No condition. -/
import Derived.Test.YtfmgnbkneccekaaRcD
import Derived.Test.YtfmgnbkneccekaaRcL
namespace Go.Proofs.Ytfmgnbkneccekaa
open Go Go.RowKit

set_option maxRecDepth 100000 in
set_option maxHeartbeats 8000000 in
theorem fnExactIsRace_walk (x0 : Race) (w : World) (h0 : x0.In w) (_ : x0.k.ok) :
    Calls Try.prog 4 #[x0.val] w fun e w' => e = .returned (.bool true) ∧ Below w.heap.size w w' := by
  show Calls Try.prog 4 #[.agg #[.int .i64 x0.clock, .bool x0.closed, .slice x0.a x0.n x0.c]] w _
  have hbx0_ := Race.rangeNew w x0 32
  have hW : Below w.heap.size w (w.alloc (.cells #[.int .i64 x0.clock, .bool x0.closed, .slice x0.a x0.n x0.c] 32)) := by (repeat (first | exact Below.refl _ _ | assumption | refine Below.drew ?_ | refine Below.alloc ?_ (by first | exact Nat.le_refl _ | (simp; done) | (simp; omega)) _))
  have h0 := h0.below hW
  go_enter Try.func4, Try.ntmps4
  go_wp2_with fail
  generalize (w.alloc (.cells #[.int .i64 x0.clock, .bool x0.closed, .slice x0.a x0.n x0.c] 32)) = w0 at hW hbx0_ h0 ⊢
  have hB0 : Below w0.heap.size w0 w0 := Below.refl _ _
  refine (szRace_any x0 _ _ (h0.below hB0) (by omega) (by omega)).mono ?_
  rintro e w1 ⟨q0, rfl, HQ0, hql0, hb1⟩
  have hB1 := step_ hB0 (Nat.le_refl _) hb1
  have hbc1 := Race.cells (rangeAt_below hbx0_ hB1)
  simp only [Nat.zero_add] at hbc1
  by_cases hq0 : q0 < 0
  · go_wp2_with fail
    go_ret
    exact ⟨rfl, step_ hW (Nat.le_refl _) hB1⟩
  have hqq0 : 0 ≤ q0 := by omega
  have HN0 := Lib.hid (HQ0.out hqq0)
  clear hbc1
  have hbc2 := Race.cells (rangeAt_below hbx0_ hB1)
  simp only [Nat.zero_add] at hbc2
  go_wp2_with fail
  clear hbc2
  refine (toRace_any x0 _ (h0.below hB1) HN0.out.1 HN0.out.2).mono ?_
  rintro e w2 ⟨a0, he, ka0, row_a0, hb2⟩
  have hB2 := step_ hB1 (Nat.le_refl _) hb2
  obtain rfl : e = .returned (.agg #[.int .i64 a0.clock, .bool a0.closed, .slice a0.a a0.n a0.c]) := he
  have hbc3 := Race.cells (rangeAt_below hbx0_ hB2)
  simp only [Nat.zero_add] at hbc3
  go_wp2_with fail
  clear hbc3
  refine (spec_IsRace a0 x0.k _ ka0 row_a0.s).mono ?_
  rintro e w3 ⟨rfl, hb3⟩
  have hB3 := step_ hB2 (Nat.le_refl _) hb3
  have hbc4 := Race.cells (rangeAt_below hbx0_ hB3)
  simp only [Nat.zero_add] at hbc4
  go_wp2_with fail
  clear hbc4
  refine (toRace_any x0 _ (h0.below hB3) HN0.out.1 HN0.out.2).mono ?_
  rintro e w4 ⟨xx0, he, kxx0, row_xx0, hb4⟩
  have hB4 := step_ hB3 (Nat.le_refl _) hb4
  obtain rfl : e = .returned (.agg #[.int .i64 xx0.clock, .bool xx0.closed, .slice xx0.a xx0.n xx0.c]) := he
  have hbc5 := Race.cells (rangeAt_below hbx0_ hB4)
  simp only [Nat.zero_add] at hbc5
  have hbc6 := Race.cells (rangeAt_below (rangeAt_below hbx0_ hB4) (below_alloc (Below.refl _ _) (.cells #[.int .i64 xx0.clock, .bool xx0.closed, .slice xx0.a xx0.n xx0.c] 24)))
  simp only [Nat.zero_add] at hbc6
  go_wp2_with fail
  clear hbc5 hbc6
  have hb5 : Below w4.heap.size w4 (w4.alloc (.cells #[.int .i64 xx0.clock, .bool xx0.closed, .slice xx0.a xx0.n xx0.c] 24)) := below_alloc (Below.refl _ _) _
  have box_xx0 := Race.rangeNew w4 xx0 24
  have blt_xx0 : w4.heap.size < (w4.alloc (.cells #[.int .i64 xx0.clock, .bool xx0.closed, .slice xx0.a xx0.n xx0.c] 24)).heap.size := by simp
  generalize w4.alloc (.cells #[.int .i64 xx0.clock, .bool xx0.closed, .slice xx0.a xx0.n xx0.c] 24) = w5 at hb5 box_xx0 blt_xx0 ⊢
  have hB5 := step_ hB4 (Nat.le_refl _) hb5
  refine (impl_IsRace xx0 x0.k _ kxx0 (row_xx0.below hb5).s).mono ?_
  rintro e w6 ⟨rfl, hb6⟩
  have hB6 := step_ hB5 (Nat.le_refl _) hb6
  have hbc7 := Race.cells (rangeAt_below box_xx0 hb6)
  simp only [Nat.zero_add] at hbc7
  have hbc8 := Race.cells (rangeAt_below hbx0_ hB6)
  simp only [Nat.zero_add] at hbc8
  go_wp2_with fail
  clear hbc7 hbc8
  have hb7 : Below w6.heap.size w6 w6.drew := (Below.refl _ _).drew
  have hB7 := step_ hB6 (Nat.le_refl _) hb7
  have hR7 := hb7
  have HH := Lib.hid (show ∀ w', Below w6.heap.size w6 w' → w'.cell? ⟨w4.heap.size, 0, none⟩ = some (.int .i64 xx0.clock) ∧ w'.cell? ⟨w4.heap.size, 1, none⟩ = some (.bool xx0.closed) ∧ w'.cell? ⟨w4.heap.size, 2, none⟩ = some (.slice xx0.a xx0.n xx0.c) ∧ w'.cell? ⟨w.heap.size, 0, none⟩ = some (.int .i64 x0.clock) ∧ w'.cell? ⟨w.heap.size, 1, none⟩ = some (.bool x0.closed) ∧ w'.cell? ⟨w.heap.size, 2, none⟩ = some (.slice x0.a x0.n x0.c) from fun w' hw => by
    have a0 := rangeAt_below (rangeAt_below box_xx0 hb6) hw
    have a0_0 := a0 0 _ rfl
    have a0_1 := a0 1 _ rfl
    have a0_2 := a0 2 _ rfl
    have a1 := rangeAt_below hbx0_ (step_ hB6 (Nat.le_refl _) hw)
    have a1_0 := a1 0 _ rfl
    have a1_1 := a1 1 _ rfl
    have a1_2 := a1 2 _ rfl
    simp only [Nat.zero_add] at a0_0 a0_1 a0_2 a1_0 a1_1 a1_2
    exact ⟨a0_0, a0_1, a0_2, a1_0, a1_1, a1_2⟩)
  go_region_held3 (fun w' => w'.cell? ⟨w4.heap.size, 0, none⟩ = some (.int .i64 xx0.clock) ∧ w'.cell? ⟨w4.heap.size, 1, none⟩ = some (.bool xx0.closed) ∧ w'.cell? ⟨w4.heap.size, 2, none⟩ = some (.slice xx0.a xx0.n xx0.c) ∧ w'.cell? ⟨w.heap.size, 0, none⟩ = some (.int .i64 x0.clock) ∧ w'.cell? ⟨w.heap.size, 1, none⟩ = some (.bool x0.closed) ∧ w'.cell? ⟨w.heap.size, 2, none⟩ = some (.slice x0.a x0.n x0.c)) (exact HH.out _ (by first | (with_reducible exact hR9) | (with_reducible exact hR8) | (with_reducible exact hR7)))
    (first
      | (go_at_call 20; refine (toRace_any x0 _ (h0.below hB7) HN0.out.1 HN0.out.2).mono ?_; rintro e w8 ⟨cc0, he, kcc0, row_cc0, hb8⟩; have hB8 := step_ hB7 (Nat.le_refl _) hb8; obtain rfl : e = .returned (.agg #[.int .i64 cc0.clock, .bool cc0.closed, .slice cc0.a cc0.n cc0.c]) := he; have hR8 := step_ hR7 (Nat.le_refl _) hb8)
      | (go_at_call 15; refine (eqRace_refl xx0 cc0 _ (kxx0.trans kcc0.symm) ((((row_xx0.below hb5).below hb6).below hb7).below hb8).s row_cc0.s).mono ?_; rintro e w9 ⟨rfl, hb9⟩; have hB9 := step_ hB8 (Nat.le_refl _) hb9; have hR9 := step_ hR8 (Nat.le_refl _) hb9))
  have hbc9 := Race.cells (rangeAt_below (rangeAt_below (rangeAt_below (rangeAt_below box_xx0 hb6) hb7) hb8) hb9)
  simp only [Nat.zero_add] at hbc9
  have hbc10 := Race.cells (rangeAt_below hbx0_ hB9)
  simp only [Nat.zero_add] at hbc10
  go_wp2_with fail
  go_ret
  exact ⟨rfl, step_ hW (Nat.le_refl _) hB9⟩
end Go.Proofs.Ytfmgnbkneccekaa
