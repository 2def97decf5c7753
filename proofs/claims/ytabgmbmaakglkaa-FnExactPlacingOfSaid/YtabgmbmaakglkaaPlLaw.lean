/- The walk of the law FnExactPlacingOf: it returns true. No condition. -/
import Derived.Test.YtabgmbmaakglkaaHtH
import Derived.Test.YtabgmbmaakglkaaHtM
namespace Go.Proofs.Ytabgmbmaakglkaa
open Go Go.RowKit

set_option maxRecDepth 100000 in
set_option maxHeartbeats 8000000 in
theorem fnExactPlacingOf_walk (x0 : Ht) (w : World) (h0 : x0.In w) (_ : x0.k.ok) :
    Calls Try.prog 3 #[x0.val] w fun e w' => e = .returned (.bool true) ∧ Below w.heap.size w w' := by
  show Calls Try.prog 3 #[.agg #[.slice x0.a x0.n x0.c, .slice x0.b x0.m x0.d]] w _
  have hbx0_ := Ht.rangeNew w x0 24
  have hW : Below w.heap.size w (w.alloc (.cells #[.slice x0.a x0.n x0.c, .slice x0.b x0.m x0.d] 24)) := by (repeat (first | exact Below.refl _ _ | assumption | refine Below.drew ?_ | refine Below.alloc ?_ (by first | exact Nat.le_refl _ | (simp; done) | (simp; omega)) _))
  have h0 := h0.below hW
  go_enter Try.func3, Try.ntmps3
  go_wp2_with fail
  generalize (w.alloc (.cells #[.slice x0.a x0.n x0.c, .slice x0.b x0.m x0.d] 24)) = w0 at hW hbx0_ h0 ⊢
  have hB0 : Below w0.heap.size w0 w0 := Below.refl _ _
  refine (szHeat_any x0 _ _ (h0.below hB0) (by omega) (by omega)).mono ?_
  rintro e w1 ⟨q0, rfl, HQ0, hql0, hb1⟩
  have hB1 := step_ hB0 (Nat.le_refl _) hb1
  have hbc1 := Ht.cells (rangeAt_below hbx0_ hB1)
  simp only [Nat.zero_add] at hbc1
  by_cases hq0 : q0 < 0
  · go_wp2_with fail
    go_ret
    exact ⟨rfl, step_ hW (Nat.le_refl _) hB1⟩
  have hqq0 : 0 ≤ q0 := by omega
  have HN0 := Lib.hid (HQ0.out hqq0)
  have hlen0 := plV_len x0.k
  clear hbc1
  have hbc2 := Ht.cells (rangeAt_below hbx0_ hB1)
  simp only [Nat.zero_add] at hbc2
  go_wp2_with fail
  clear hbc2
  refine (toHeat_any x0 _ (h0.below hB1) HN0.out.1 HN0.out.2).mono ?_
  rintro e w2 ⟨a0, he, ka0, row_a0, hb2⟩
  have hB2 := step_ hB1 (Nat.le_refl _) hb2
  obtain rfl : e = .returned (.agg #[.slice a0.a a0.n a0.c, .slice a0.b a0.m a0.d]) := he
  have hbc3 := Ht.cells (rangeAt_below hbx0_ hB2)
  simp only [Nat.zero_add] at hbc3
  go_wp2_with fail
  clear hbc3
  refine (spec_PlacingOf a0 x0.k _ ka0 row_a0.s).mono ?_
  rintro e w3 ⟨sw0, rfl, row_sw0, hb3⟩
  have hB3 := step_ hB2 (Nat.le_refl _) hb3
  have hbc4 := Ht.cells (rangeAt_below hbx0_ hB3)
  simp only [Nat.zero_add] at hbc4
  go_wp2_with fail
  clear hbc4
  refine (toHeat_any x0 _ (h0.below hB3) HN0.out.1 HN0.out.2).mono ?_
  rintro e w4 ⟨xx0, he, kxx0, row_xx0, hb4⟩
  have hB4 := step_ hB3 (Nat.le_refl _) hb4
  obtain rfl : e = .returned (.agg #[.slice xx0.a xx0.n xx0.c, .slice xx0.b xx0.m xx0.d]) := he
  have hbc5 := Ht.cells (rangeAt_below hbx0_ hB4)
  simp only [Nat.zero_add] at hbc5
  have hbc6 := Ht.cells (rangeAt_below (rangeAt_below hbx0_ hB4) (below_alloc (Below.refl _ _) (.cells #[.slice xx0.a xx0.n xx0.c, .slice xx0.b xx0.m xx0.d] 28)))
  simp only [Nat.zero_add] at hbc6
  go_wp2_with fail
  clear hbc5 hbc6
  have hb5 : Below w4.heap.size w4 (w4.alloc (.cells #[.slice xx0.a xx0.n xx0.c, .slice xx0.b xx0.m xx0.d] 28)) := below_alloc (Below.refl _ _) _
  have box_xx0 := Ht.rangeNew w4 xx0 28
  have blt_xx0 : w4.heap.size < (w4.alloc (.cells #[.slice xx0.a xx0.n xx0.c, .slice xx0.b xx0.m xx0.d] 28)).heap.size := by simp
  generalize w4.alloc (.cells #[.slice xx0.a xx0.n xx0.c, .slice xx0.b xx0.m xx0.d] 28) = w5 at hb5 box_xx0 blt_xx0 ⊢
  have hB5 := step_ hB4 (Nat.le_refl _) hb5
  refine (impl_PlacingOf xx0 x0.k _ kxx0 (row_xx0.below hb5).s).mono ?_
  rintro e w6 ⟨sg0, rfl, row_sg0, hb6⟩
  have hB6 := step_ hB5 (Nat.le_refl _) hb6
  have hbc7 := Ht.cells (rangeAt_below box_xx0 hb6)
  simp only [Nat.zero_add] at hbc7
  have hbc8 := Ht.cells (rangeAt_below hbx0_ hB6)
  simp only [Nat.zero_add] at hbc8
  go_wp2_with fail
  clear hbc7 hbc8
  refine (eqIntS_refl (plV x0.k) _ _ _ (Sl.of_flat row_sg0) (Sl.of_flat (((row_sw0.below hb4).below hb5).below hb6))).mono ?_
  rintro e w7 ⟨rfl, hb7⟩
  have hB7 := step_ hB6 (Nat.le_refl _) hb7
  have hbc9 := Ht.cells (rangeAt_below (rangeAt_below box_xx0 hb6) hb7)
  simp only [Nat.zero_add] at hbc9
  have hbc10 := Ht.cells (rangeAt_below hbx0_ hB7)
  simp only [Nat.zero_add] at hbc10
  go_wp2_with fail
  clear hbc9 hbc10
  have hb8 : Below w7.heap.size w7 w7.drew := (Below.refl _ _).drew
  have hB8 := step_ hB7 (Nat.le_refl _) hb8
  have hR8 := hb8
  have HH := Lib.hid (show ∀ w', Below w7.heap.size w7 w' → w'.cell? ⟨w4.heap.size, 0, none⟩ = some (.slice xx0.a xx0.n xx0.c) ∧ w'.cell? ⟨w4.heap.size, 1, none⟩ = some (.slice xx0.b xx0.m xx0.d) ∧ w'.cell? ⟨w.heap.size, 0, none⟩ = some (.slice x0.a x0.n x0.c) ∧ w'.cell? ⟨w.heap.size, 1, none⟩ = some (.slice x0.b x0.m x0.d) from fun w' hw => by
    have a0 := rangeAt_below (rangeAt_below (rangeAt_below box_xx0 hb6) hb7) hw
    have a0_0 := a0 0 _ rfl
    have a0_1 := a0 1 _ rfl
    have a1 := rangeAt_below hbx0_ (step_ hB7 (Nat.le_refl _) hw)
    have a1_0 := a1 0 _ rfl
    have a1_1 := a1 1 _ rfl
    simp only [Nat.zero_add] at a0_0 a0_1 a1_0 a1_1
    exact ⟨a0_0, a0_1, a1_0, a1_1⟩)
  go_region_held3 (fun w' => w'.cell? ⟨w4.heap.size, 0, none⟩ = some (.slice xx0.a xx0.n xx0.c) ∧ w'.cell? ⟨w4.heap.size, 1, none⟩ = some (.slice xx0.b xx0.m xx0.d) ∧ w'.cell? ⟨w.heap.size, 0, none⟩ = some (.slice x0.a x0.n x0.c) ∧ w'.cell? ⟨w.heap.size, 1, none⟩ = some (.slice x0.b x0.m x0.d)) (exact HH.out _ (by first | (with_reducible exact hR10) | (with_reducible exact hR9) | (with_reducible exact hR8)))
    (first
      | (go_at_call 12; refine (toHeat_any x0 _ (h0.below hB8) HN0.out.1 HN0.out.2).mono ?_; rintro e w9 ⟨cc0, he, kcc0, row_cc0, hb9⟩; have hB9 := step_ hB8 (Nat.le_refl _) hb9; obtain rfl : e = .returned (.agg #[.slice cc0.a cc0.n cc0.c, .slice cc0.b cc0.m cc0.d]) := he; have hR9 := step_ hR8 (Nat.le_refl _) hb9)
      | (go_at_call 15; refine (eqHeat_refl xx0 cc0 _ (kxx0.trans kcc0.symm) (((((row_xx0.below hb5).below hb6).below hb7).below hb8).below hb9).s row_cc0.s).mono ?_; rintro e w10 ⟨rfl, hb10⟩; have hB10 := step_ hB9 (Nat.le_refl _) hb10; have hR10 := step_ hR9 (Nat.le_refl _) hb10))
  have hbc11 := Ht.cells (rangeAt_below (rangeAt_below (rangeAt_below (rangeAt_below (rangeAt_below box_xx0 hb6) hb7) hb8) hb9) hb10)
  simp only [Nat.zero_add] at hbc11
  have hbc12 := Ht.cells (rangeAt_below hbx0_ hB10)
  simp only [Nat.zero_add] at hbc12
  go_wp2_with fail
  clear hbc11 hbc12
  refine (markHeat_fr _ xx0 1 _ ((((((row_xx0.below hb5).below hb6).below hb7).below hb8).below hb9).below hb10) (by omega) (by omega) (lensHt1_ kxx0 HN0.out)).mono ?_
  rintro e w11 ⟨mk11, rfl, hm011, hm111, hg11⟩
  have hB11 := below_kept hB10 hg11 (fun k hk => Nat.le_trans hB3.size (row_xx0.lt k hk).1) hB10.size
  have cur11_sg0 := Row.keptOff ((((row_sg0.below hb7).below hb8).below hb9).below hb10) hg11 (fun k hk hs => by have h1 := (row_sg0.lt k hk).1; have h2 := (row_xx0.lt k hs).2; have h3 : w4.heap.size ≤ w5.heap.size := (Nat.le_trans (Nat.le_refl _) hb5.size); omega)
  have cur11_sw0 := Row.keptOff (((((((row_sw0.below hb4).below hb5).below hb6).below hb7).below hb8).below hb9).below hb10) hg11 (fun k hk hs => by have h1 := (row_sw0.lt k hk).2; have h2 := (row_xx0.lt k hs).1; have h3 : w3.heap.size ≤ w3.heap.size := (Nat.le_refl _); omega)
  have bcur11_xx0 := range_keptOff (rangeAt_below (rangeAt_below (rangeAt_below (rangeAt_below (rangeAt_below box_xx0 hb6) hb7) hb8) hb9) hb10) hg11 (fun hs => by have h2 := (row_xx0.lt _ hs).2; have h3 : w4.heap.size ≤ w4.heap.size := (Nat.le_refl _); omega)
  have hbc13 := Ht.cells bcur11_xx0
  simp only [Nat.zero_add] at hbc13
  have hbc14 := Ht.cells (rangeAt_below hbx0_ hB11)
  simp only [Nat.zero_add] at hbc14
  go_wp2_with fail
  clear hbc13 hbc14
  refine (eqIntS_refl (plV x0.k) _ _ _ (Sl.of_flat cur11_sg0) (Sl.of_flat cur11_sw0)).mono ?_
  rintro e w12 ⟨rfl, hb12⟩
  have hB12 := step_ hB11 (Nat.le_refl _) hb12
  have hbc15 := Ht.cells (rangeAt_below bcur11_xx0 hb12)
  simp only [Nat.zero_add] at hbc15
  have hbc16 := Ht.cells (rangeAt_below hbx0_ hB12)
  simp only [Nat.zero_add] at hbc16
  go_wp2_with fail
  clear hbc15 hbc16
  refine (markIntS_any _ _ _ 1 _ (cur11_sg0.below hb12) (by simp; omega) (by omega) (by omega)).mono ?_
  rintro e w13 ⟨rfl, cur13_sg0, hg13⟩
  simp only [List.length_map] at cur13_sg0 ⊢
  have hB13 := hB12.grown hg13 hB12.size (fun k hk => Nat.le_trans hB5.size (row_sg0.lt k hk).1)
  have hk13 := KeptOff.of_grown (S := fun k => (sg0 : Value).ownBlock = some k) hg13 (fun k hk => hk)
  have cur13_sw0 := Row.keptOff (cur11_sw0.below hb12) hk13 (fun k hk hs => by have h1 := (row_sw0.lt k hk).2; have h2 := (row_sg0.lt k hs).1; have h3 : w3.heap.size ≤ w5.heap.size := (Nat.le_trans (Nat.le_trans (Nat.le_refl _) hb4.size) hb5.size); omega)
  have bcur13_xx0 := range_keptOff (rangeAt_below bcur11_xx0 hb12) hk13 (fun hs => by have h1 := (row_sg0.lt _ hs).1; have h3 : w5.heap.size ≤ w5.heap.size := (Nat.le_refl _); have h4 := blt_xx0; omega)
  have hbc17 := Ht.cells bcur13_xx0
  simp only [Nat.zero_add] at hbc17
  have hbc18 := Ht.cells (rangeAt_below hbx0_ hB13)
  simp only [Nat.zero_add] at hbc18
  go_wp2_with fail
  clear hbc17 hbc18
  refine (heldIntS_any _ (plV x0.k).length 1 _ (Sl.of_flat cur13_sg0) (by omega) (by omega) (by omega)).mono ?_
  rintro e w' ⟨rfl, rfl⟩
  have hbc19 := Ht.cells bcur13_xx0
  simp only [Nat.zero_add] at hbc19
  have hbc20 := Ht.cells (rangeAt_below hbx0_ hB13)
  simp only [Nat.zero_add] at hbc20
  go_wp2_with fail
  clear hbc19 hbc20
  refine (toHeat_any x0 _ (h0.below hB13) HN0.out.1 HN0.out.2).mono ?_
  rintro e w14 ⟨bb0, he, kbb0, row_bb0, hb14⟩
  have hB14 := step_ hB13 (Nat.le_refl _) hb14
  obtain rfl : e = .returned (.agg #[.slice bb0.a bb0.n bb0.c, .slice bb0.b bb0.m bb0.d]) := he
  have hbc21 := Ht.cells (rangeAt_below bcur13_xx0 hb14)
  simp only [Nat.zero_add] at hbc21
  have hbc22 := Ht.cells (rangeAt_below hbx0_ hB14)
  simp only [Nat.zero_add] at hbc22
  go_wp2_with fail
  clear hbc21 hbc22
  refine (impl_PlacingOf bb0 x0.k _ kbb0 row_bb0.s).mono ?_
  rintro e w15 ⟨sh0, rfl, row_sh0, hb15⟩
  have hB15 := step_ hB14 (Nat.le_refl _) hb15
  have hbc23 := Ht.cells (rangeAt_below (rangeAt_below bcur13_xx0 hb14) hb15)
  simp only [Nat.zero_add] at hbc23
  have hbc24 := Ht.cells (rangeAt_below hbx0_ hB15)
  simp only [Nat.zero_add] at hbc24
  go_wp2_with fail
  clear hbc23 hbc24
  refine (eqIntS_refl (plV x0.k) _ _ _ (Sl.of_flat row_sh0) (Sl.of_flat ((cur13_sw0.below hb14).below hb15))).mono ?_
  rintro e w16 ⟨rfl, hb16⟩
  have hB16 := step_ hB15 (Nat.le_refl _) hb16
  have hbc25 := Ht.cells (rangeAt_below (rangeAt_below (rangeAt_below bcur13_xx0 hb14) hb15) hb16)
  simp only [Nat.zero_add] at hbc25
  have hbc26 := Ht.cells (rangeAt_below hbx0_ hB16)
  simp only [Nat.zero_add] at hbc26
  go_wp2_with fail
  clear hbc25 hbc26
  refine (heldIntS_any _ (plV x0.k).length 1 _ (Sl.of_flat (((cur13_sg0.below hb14).below hb15).below hb16)) (by omega) (by omega) (by omega)).mono ?_
  rintro e w' ⟨rfl, rfl⟩
  have hbc27 := Ht.cells (rangeAt_below (rangeAt_below (rangeAt_below bcur13_xx0 hb14) hb15) hb16)
  simp only [Nat.zero_add] at hbc27
  have hbc28 := Ht.cells (rangeAt_below hbx0_ hB16)
  simp only [Nat.zero_add] at hbc28
  go_wp2_with fail
  go_ret
  exact ⟨rfl, step_ hW (Nat.le_refl _) hB16⟩
end Go.Proofs.Ytabgmbmaakglkaa
