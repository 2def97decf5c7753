/- The walk of the law FnExactStepRace: it returns true. No condition. -/
import Derived.Test.YtfmgnbkneccekaaStpI
import Derived.Test.YtfmgnbkneccekaaStpL
import Derived.Test.YtfmgnbkneccekaaRcL
import Derived.Test.YtfmgnbkneccekaaRcH
namespace Go.Proofs.Ytfmgnbkneccekaa
open Go Go.RowKit

theorem join3 {A : Type} {C : Prop} {F P : World → Nat → A → Prop} (h : (∀ W B p, F W B p → P W B p) → C) (k : ∀ W B p, F W B p → P W B p) : C := h k
theorem join4 {A : Type} {C : Prop} {F P : World → Nat → A → A → Prop} (h : (∀ W B p a, F W B p a → P W B p a) → C) (k : ∀ W B p a, F W B p a → P W B p a) : C := h k

set_option maxRecDepth 100000 in
set_option maxHeartbeats 8000000 in
theorem fnExactStepRace_walk (x0 : Race) (x1 : Step) (w : World) (h0 : x0.In w) (_ : x0.k.ok) (ho1 : Step.ok x1) :
    Calls Try.prog 9 #[x0.val, x1.val] w fun e w' => e = .returned (.bool true) ∧ Below w.heap.size w w' := by
  show Calls Try.prog 9 #[.agg #[.int .i64 x0.clock, .bool x0.closed, .slice x0.a x0.n x0.c], .agg #[.int .i64 x1.kind, .int .i64 x1.entrant, .int .i64 x1.value]] w _
  have hbx0_ := Race.rangeNew w x0 32
  have hbx1_ := Step.rangeNew (w.alloc (.cells #[.int .i64 x0.clock, .bool x0.closed, .slice x0.a x0.n x0.c] 32)) x1 51
  have hbx0_ := rangeAt_below hbx0_ (below_alloc (Below.refl _ _) (.cells #[.int .i64 x1.kind, .int .i64 x1.entrant, .int .i64 x1.value] 51))
  have hW : Below w.heap.size w ((w.alloc (.cells #[.int .i64 x0.clock, .bool x0.closed, .slice x0.a x0.n x0.c] 32)).alloc (.cells #[.int .i64 x1.kind, .int .i64 x1.entrant, .int .i64 x1.value] 51)) := by (repeat (first | exact Below.refl _ _ | assumption | refine Below.drew ?_ | refine Below.alloc ?_ (by first | exact Nat.le_refl _ | (simp; done) | (simp; omega)) _))
  have hbx1_ : World.rangeAt ((w.alloc (.cells #[.int .i64 x0.clock, .bool x0.closed, .slice x0.a x0.n x0.c] 32)).alloc (.cells #[.int .i64 x1.kind, .int .i64 x1.entrant, .int .i64 x1.value] 51)) (w.heap.size + 1) 0 x1.lst := by simpa using hbx1_
  have h0 := h0.below hW
  go_enter Try.func9, Try.ntmps9
  go_wp2_with fail
  generalize ((w.alloc (.cells #[.int .i64 x0.clock, .bool x0.closed, .slice x0.a x0.n x0.c] 32)).alloc (.cells #[.int .i64 x1.kind, .int .i64 x1.entrant, .int .i64 x1.value] 51)) = w0 at hW hbx0_ hbx1_ h0 ⊢
  have hB0 : Below w0.heap.size w0 w0 := Below.refl _ _
  refine (szRace_any x0 _ _ (h0.below hB0) (by omega) (by omega)).mono ?_
  rintro e w1 ⟨q0, rfl, HQ0, hql0, hb1⟩
  have hB1 := step_ hB0 (Nat.le_refl _) hb1
  have hbc1 := Race.cells (rangeAt_below hbx0_ hB1)
  simp only [Nat.zero_add] at hbc1
  have hbc2 := Step.cells (rangeAt_below hbx1_ hB1)
  simp only [Nat.zero_add] at hbc2
  by_cases hq0 : q0 < 0
  · go_wp2_with fail
    go_ret
    exact ⟨rfl, step_ hW (Nat.le_refl _) hB1⟩
  have hqq0 : 0 ≤ q0 := by omega
  have HN0 := Lib.hid (HQ0.out hqq0)
  have hlen0 := strV_small x0.k x1
  clear hbc1 hbc2
  have hbc3 := Race.cells (rangeAt_below hbx0_ hB1)
  simp only [Nat.zero_add] at hbc3
  have hbc4 := Step.cells (rangeAt_below hbx1_ hB1)
  simp only [Nat.zero_add] at hbc4
  go_wp2_with fail
  clear hbc3 hbc4
  have hV0 := Lib.hid (show Below w1.heap.size w1 w1.drew from (Below.refl _ _).drew)
  have hlo0 : w1.heap.size ≤ w1.heap.size := Nat.le_refl _
  have HH := Lib.hid (show ∀ w', Below w1.heap.size w1 w' → w'.cell? ⟨w.heap.size, 0, none⟩ = some (.int .i64 x0.clock) ∧ w'.cell? ⟨w.heap.size, 1, none⟩ = some (.bool x0.closed) ∧ w'.cell? ⟨w.heap.size, 2, none⟩ = some (.slice x0.a x0.n x0.c) ∧ w'.cell? ⟨w.heap.size + 1, 0, none⟩ = some (.int .i64 x1.kind) ∧ w'.cell? ⟨w.heap.size + 1, 1, none⟩ = some (.int .i64 x1.entrant) ∧ w'.cell? ⟨w.heap.size + 1, 2, none⟩ = some (.int .i64 x1.value) from fun w' hw => by
    have a0 := rangeAt_below hbx0_ (step_ hB1 (Nat.le_refl _) hw)
    have a0_0 := a0 0 _ rfl
    have a0_1 := a0 1 _ rfl
    have a0_2 := a0 2 _ rfl
    have a1 := rangeAt_below hbx1_ (step_ hB1 (Nat.le_refl _) hw)
    have a1_0 := a1 0 _ rfl
    have a1_1 := a1 1 _ rfl
    have a1_2 := a1 2 _ rfl
    simp only [Nat.zero_add] at a0_0 a0_1 a0_2 a1_0 a1_1 a1_2
    exact ⟨a0_0, a0_1, a0_2, a1_0, a1_1, a1_2⟩)
  apply join4 (F := fun (W : World) (B : Nat) (p : Race) (a : Race) => p.k = (strV x0.k x1) ∧ RaceR w1.heap.size W p ∧ World.rangeAt W B 0 p.lst ∧ Below w1.heap.size w1 W ∧ w1.heap.size ≤ B ∧ B < W.heap.size ∧ ∀ k, RaceBlk p k → k ≠ B)
  · intro hk
    go_region_held3 (fun w' => w'.cell? ⟨w.heap.size, 0, none⟩ = some (.int .i64 x0.clock) ∧ w'.cell? ⟨w.heap.size, 1, none⟩ = some (.bool x0.closed) ∧ w'.cell? ⟨w.heap.size, 2, none⟩ = some (.slice x0.a x0.n x0.c) ∧ w'.cell? ⟨w.heap.size + 1, 0, none⟩ = some (.int .i64 x1.kind) ∧ w'.cell? ⟨w.heap.size + 1, 1, none⟩ = some (.int .i64 x1.entrant) ∧ w'.cell? ⟨w.heap.size + 1, 2, none⟩ = some (.int .i64 x1.value)) (exact HH.out _ (by repeat (first | (with_reducible exact hV3.out) | (with_reducible exact hV2.out) | (with_reducible exact hV1.out) | (with_reducible exact hV0.out) | (with_reducible exact Below.refl _ _) | (with_reducible refine Below.drew ?_) | (with_reducible refine below_alloc ?_ _) | (with_reducible refine Below.setCell ?_ (by first | (with_reducible exact hlo3) | (with_reducible exact hlo2) | (with_reducible exact hlo1) | (with_reducible exact hlo0)) _))))
      (first
        | (go_at_call 20; have hbase1 := hV0.out.size; refine (toRace_any x0 w1.drew (h0.below (step_ hB1 (Nat.le_refl _) hV0.out)) HN0.out.1 HN0.out.2).mono ?_; rintro e v1 ⟨a0, he, ka0, row_a0, hv1⟩; have hV1 := Lib.hid (step_ hV0.out (Nat.le_refl _) hv1); have hlo1 := hV1.out.size; obtain rfl : e = .returned (.agg #[.int .i64 a0.clock, .bool a0.closed, .slice a0.a a0.n a0.c]) := he)
        | (go_at_call 20; have hz := below_alloc (Below.refl w1.drew.heap.size w1.drew) (.cells #[.int .i64 0, .bool false, .slice none 0 0] 24); have hVz := step_ hV0.out (Nat.le_refl _) hz; have HZz := Lib.hid (show LitAt (w1.drew.alloc (.cells #[.int .i64 0, .bool false, .slice none 0 0] 24)) w1.heap.size 24 [.int .i64 0, .bool false, .slice none 0 0] from LitAt.new w1.drew _ _ _ rfl); have hbase1 := hVz.size; refine (toRace_any x0 (w1.drew.alloc (.cells #[.int .i64 0, .bool false, .slice none 0 0] 24)) (h0.below (step_ hB1 (Nat.le_refl _) hVz)) HN0.out.1 HN0.out.2).mono ?_; rintro e v1 ⟨a0, he, ka0, row_a0, hvz⟩; have hv1 := step_ hz (Nat.le_refl _) hvz; have hV1 := Lib.hid (step_ hV0.out (Nat.le_refl _) hv1); have hlo1 := hV1.out.size; have HZ0 := Lib.hid (HZz.out.below hvz); clear HZz hVz; obtain rfl : e = .returned (.agg #[.int .i64 a0.clock, .bool a0.closed, .slice a0.a a0.n a0.c]) := he)
        | (go_at_call 37; have hbase2 := hV1.out.size; refine (toRaceStep_any x1 v1).mono ?_; rintro e v2 ⟨rfl, hv2⟩; have hV2 := Lib.hid (step_ hV1.out (Nat.le_refl _) hv2); have hlo2 := hV2.out.size; (try (have HZ0 := Lib.hid (HZ0.out.below hv2))); skip)
        | (go_at_call 37; have hz := below_alloc (Below.refl v1.heap.size v1) (.cells #[.int .i64 0, .bool false, .slice none 0 0] 24); have hVz := step_ hV1.out (Nat.le_refl _) hz; have HZz := Lib.hid (show LitAt (v1.alloc (.cells #[.int .i64 0, .bool false, .slice none 0 0] 24)) v1.heap.size 24 [.int .i64 0, .bool false, .slice none 0 0] from LitAt.new v1 _ _ _ rfl); have hbase2 := hVz.size; refine (toRaceStep_any x1 (v1.alloc (.cells #[.int .i64 0, .bool false, .slice none 0 0] 24))).mono ?_; rintro e v2 ⟨rfl, hvz⟩; have hv2 := step_ hz (Nat.le_refl _) hvz; have hV2 := Lib.hid (step_ hV1.out (Nat.le_refl _) hv2); have hlo2 := hV2.out.size; have HZ1 := Lib.hid (HZz.out.below hvz); clear HZz hVz; skip)
        | (go_at_call 36; (try (have hlt0 := HZ0.out.lt)); (try (have hlt1 := HZ1.out.lt)); have hbase3 := hV2.out.size; refine (spec_StepRace a0 x0.k x1 v2 ka0 (row_a0.below hv2).s ho1).mono ?_; rintro e v3 ⟨sw0, rfl, ksw0, row_sw0, hv3⟩; have hV3 := Lib.hid (step_ hV2.out (Nat.le_refl _) hv3); have hlo3 := hV3.out.size; (try (have HZ0 := Lib.hid (HZ0.out.below hv3))); (try (have HZ1 := Lib.hid (HZ1.out.below hv3))); (try (have z00 := HZ0.out.range 0 _ rfl; have z01 := HZ0.out.range 1 _ rfl; have z02 := HZ0.out.range 2 _ rfl; have zf0 := HZ0.out.frozen; simp only [Nat.zero_add] at z00 z01 z02)); (try (have z10 := HZ1.out.range 0 _ rfl; have z11 := HZ1.out.range 1 _ rfl; have z12 := HZ1.out.range 2 _ rfl; have zf1 := HZ1.out.frozen; simp only [Nat.zero_add] at z10 z11 z12)))
        | (go_at_call 36; have hz := below_alloc (Below.refl v2.heap.size v2) (.cells #[.int .i64 0, .bool false, .slice none 0 0] 24); have hVz := step_ hV2.out (Nat.le_refl _) hz; have HZz := Lib.hid (show LitAt (v2.alloc (.cells #[.int .i64 0, .bool false, .slice none 0 0] 24)) v2.heap.size 24 [.int .i64 0, .bool false, .slice none 0 0] from LitAt.new v2 _ _ _ rfl); have hlt2 := HZz.out.lt; have hbase3 := hVz.size; refine (spec_StepRace a0 x0.k x1 (v2.alloc (.cells #[.int .i64 0, .bool false, .slice none 0 0] 24)) ka0 ((row_a0.below hv2).below hz).s ho1).mono ?_; rintro e v3 ⟨sw0, rfl, ksw0, row_sw0, hvz⟩; have hv3 := step_ hz (Nat.le_refl _) hvz; have hV3 := Lib.hid (step_ hV2.out (Nat.le_refl _) hv3); have hlo3 := hV3.out.size; have HZ2 := Lib.hid (HZz.out.below hvz); clear HZz hVz; (try (have z20 := HZ2.out.range 0 _ rfl; have z21 := HZ2.out.range 1 _ rfl; have z22 := HZ2.out.range 2 _ rfl; have zf2 := HZ2.out.frozen; simp only [Nat.zero_add] at z20 z21 z22))))
    all_goals first
      | (have _ := HZ0
         obtain ⟨B_, hBe⟩ : ∃ b, b = w1.heap.size := ⟨_, rfl⟩
         have HF : sw0.k = (strV x0.k x1) ∧ RaceR w1.heap.size (((v3.setCell ⟨B_, 0, none⟩ (.int .i64 sw0.clock)).setCell ⟨B_, 1, none⟩ (.bool sw0.closed)).setCell ⟨B_, 2, none⟩ (.slice sw0.a sw0.n sw0.c)) sw0 ∧ World.rangeAt (((v3.setCell ⟨B_, 0, none⟩ (.int .i64 sw0.clock)).setCell ⟨B_, 1, none⟩ (.bool sw0.closed)).setCell ⟨B_, 2, none⟩ (.slice sw0.a sw0.n sw0.c)) B_ 0 sw0.lst ∧ Below w1.heap.size w1 (((v3.setCell ⟨B_, 0, none⟩ (.int .i64 sw0.clock)).setCell ⟨B_, 1, none⟩ (.bool sw0.closed)).setCell ⟨B_, 2, none⟩ (.slice sw0.a sw0.n sw0.c)) ∧ w1.heap.size ≤ B_ ∧ B_ < (((v3.setCell ⟨B_, 0, none⟩ (.int .i64 sw0.clock)).setCell ⟨B_, 1, none⟩ (.bool sw0.closed)).setCell ⟨B_, 2, none⟩ (.slice sw0.a sw0.n sw0.c)).heap.size ∧ ∀ k, RaceBlk sw0 k → k ≠ B_ := by
           subst hBe
           exact ⟨ksw0, RaceR.mono (((row_sw0.setOther hlt0 _).setOther hlt0 _).setOther hlt0 _) hbase3, (((HZ0.out.set 0 (.int .i64 sw0.clock)).set 1 (.bool sw0.closed)).set 2 (.slice sw0.a sw0.n sw0.c)).range, (((hV3.out.setCell hlo0 _).setCell hlo0 _).setCell hlo0 _), hlo0, by simpa using HZ0.out.lt, fun k hk => by have h1 := (RaceR.lt row_sw0 k hk).1; omega⟩
         rw [← hBe]
         generalize (((v3.setCell ⟨B_, 0, none⟩ (.int .i64 sw0.clock)).setCell ⟨B_, 1, none⟩ (.bool sw0.closed)).setCell ⟨B_, 2, none⟩ (.slice sw0.a sw0.n sw0.c)) = WF at HF ⊢
         exact hk WF B_ sw0 a0 HF)
      | (have _ := HZ1
         obtain ⟨B_, hBe⟩ : ∃ b, b = v1.heap.size := ⟨_, rfl⟩
         have HF : sw0.k = (strV x0.k x1) ∧ RaceR w1.heap.size (((v3.setCell ⟨B_, 0, none⟩ (.int .i64 sw0.clock)).setCell ⟨B_, 1, none⟩ (.bool sw0.closed)).setCell ⟨B_, 2, none⟩ (.slice sw0.a sw0.n sw0.c)) sw0 ∧ World.rangeAt (((v3.setCell ⟨B_, 0, none⟩ (.int .i64 sw0.clock)).setCell ⟨B_, 1, none⟩ (.bool sw0.closed)).setCell ⟨B_, 2, none⟩ (.slice sw0.a sw0.n sw0.c)) B_ 0 sw0.lst ∧ Below w1.heap.size w1 (((v3.setCell ⟨B_, 0, none⟩ (.int .i64 sw0.clock)).setCell ⟨B_, 1, none⟩ (.bool sw0.closed)).setCell ⟨B_, 2, none⟩ (.slice sw0.a sw0.n sw0.c)) ∧ w1.heap.size ≤ B_ ∧ B_ < (((v3.setCell ⟨B_, 0, none⟩ (.int .i64 sw0.clock)).setCell ⟨B_, 1, none⟩ (.bool sw0.closed)).setCell ⟨B_, 2, none⟩ (.slice sw0.a sw0.n sw0.c)).heap.size ∧ ∀ k, RaceBlk sw0 k → k ≠ B_ := by
           subst hBe
           exact ⟨ksw0, RaceR.mono (((row_sw0.setOther hlt1 _).setOther hlt1 _).setOther hlt1 _) hbase3, (((HZ1.out.set 0 (.int .i64 sw0.clock)).set 1 (.bool sw0.closed)).set 2 (.slice sw0.a sw0.n sw0.c)).range, (((hV3.out.setCell hlo1 _).setCell hlo1 _).setCell hlo1 _), hlo1, by simpa using HZ1.out.lt, fun k hk => by have h1 := (RaceR.lt row_sw0 k hk).1; omega⟩
         rw [← hBe]
         generalize (((v3.setCell ⟨B_, 0, none⟩ (.int .i64 sw0.clock)).setCell ⟨B_, 1, none⟩ (.bool sw0.closed)).setCell ⟨B_, 2, none⟩ (.slice sw0.a sw0.n sw0.c)) = WF at HF ⊢
         exact hk WF B_ sw0 a0 HF)
      | (have _ := HZ2
         obtain ⟨B_, hBe⟩ : ∃ b, b = v2.heap.size := ⟨_, rfl⟩
         have HF : sw0.k = (strV x0.k x1) ∧ RaceR w1.heap.size (((v3.setCell ⟨B_, 0, none⟩ (.int .i64 sw0.clock)).setCell ⟨B_, 1, none⟩ (.bool sw0.closed)).setCell ⟨B_, 2, none⟩ (.slice sw0.a sw0.n sw0.c)) sw0 ∧ World.rangeAt (((v3.setCell ⟨B_, 0, none⟩ (.int .i64 sw0.clock)).setCell ⟨B_, 1, none⟩ (.bool sw0.closed)).setCell ⟨B_, 2, none⟩ (.slice sw0.a sw0.n sw0.c)) B_ 0 sw0.lst ∧ Below w1.heap.size w1 (((v3.setCell ⟨B_, 0, none⟩ (.int .i64 sw0.clock)).setCell ⟨B_, 1, none⟩ (.bool sw0.closed)).setCell ⟨B_, 2, none⟩ (.slice sw0.a sw0.n sw0.c)) ∧ w1.heap.size ≤ B_ ∧ B_ < (((v3.setCell ⟨B_, 0, none⟩ (.int .i64 sw0.clock)).setCell ⟨B_, 1, none⟩ (.bool sw0.closed)).setCell ⟨B_, 2, none⟩ (.slice sw0.a sw0.n sw0.c)).heap.size ∧ ∀ k, RaceBlk sw0 k → k ≠ B_ := by
           subst hBe
           exact ⟨ksw0, RaceR.mono (((row_sw0.setOther hlt2 _).setOther hlt2 _).setOther hlt2 _) hbase3, (((HZ2.out.set 0 (.int .i64 sw0.clock)).set 1 (.bool sw0.closed)).set 2 (.slice sw0.a sw0.n sw0.c)).range, (((hV3.out.setCell hlo2 _).setCell hlo2 _).setCell hlo2 _), hlo2, by simpa using HZ2.out.lt, fun k hk => by have h1 := (RaceR.lt row_sw0 k hk).1; omega⟩
         rw [← hBe]
         generalize (((v3.setCell ⟨B_, 0, none⟩ (.int .i64 sw0.clock)).setCell ⟨B_, 1, none⟩ (.bool sw0.closed)).setCell ⟨B_, 2, none⟩ (.slice sw0.a sw0.n sw0.c)) = WF at HF ⊢
         exact hk WF B_ sw0 a0 HF)
      | (obtain ⟨B_, hBe⟩ : ∃ b, b = v3.heap.size := ⟨_, rfl⟩
         have HF : sw0.k = (strV x0.k x1) ∧ RaceR w1.heap.size (v3.alloc (.cells #[.int .i64 sw0.clock, .bool sw0.closed, .slice sw0.a sw0.n sw0.c] 24)) sw0 ∧ World.rangeAt (v3.alloc (.cells #[.int .i64 sw0.clock, .bool sw0.closed, .slice sw0.a sw0.n sw0.c] 24)) B_ 0 sw0.lst ∧ Below w1.heap.size w1 (v3.alloc (.cells #[.int .i64 sw0.clock, .bool sw0.closed, .slice sw0.a sw0.n sw0.c] 24)) ∧ w1.heap.size ≤ B_ ∧ B_ < (v3.alloc (.cells #[.int .i64 sw0.clock, .bool sw0.closed, .slice sw0.a sw0.n sw0.c] 24)).heap.size ∧ ∀ k, RaceBlk sw0 k → k ≠ B_ := by
           subst hBe
           exact ⟨ksw0, RaceR.below (RaceR.mono row_sw0 hbase3) (below_alloc (Below.refl _ _) _), Race.rangeNew v3 sw0 24, below_alloc hV3.out _, hlo3, by simp, fun k hk => by have h1 := (RaceR.lt row_sw0 k hk).2; omega⟩
         rw [← hBe]
         generalize (v3.alloc (.cells #[.int .i64 sw0.clock, .bool sw0.closed, .slice sw0.a sw0.n sw0.c] 24)) = WF at HF ⊢
         exact hk WF B_ sw0 a0 HF)
  rintro w2 blk_sw0 sw0 _ ⟨ksw0, row_sw0, box_sw0, hb2, blo_sw0, blt_sw0, hne_sw0⟩
  have hB2 := step_ hB1 (Nat.le_refl _) hb2
  have hbc5 := Race.cells box_sw0
  simp only [Nat.zero_add] at hbc5
  have hbc6 := Race.cells (rangeAt_below hbx0_ hB2)
  simp only [Nat.zero_add] at hbc6
  have hbc7 := Step.cells (rangeAt_below hbx1_ hB2)
  simp only [Nat.zero_add] at hbc7
  go_wp2_with fail
  clear hbc5 hbc6 hbc7
  refine (toRace_any x0 _ (h0.below hB2) HN0.out.1 HN0.out.2).mono ?_
  rintro e w3 ⟨xx0, he, kxx0, row_xx0, hb3⟩
  have hB3 := step_ hB2 (Nat.le_refl _) hb3
  obtain rfl : e = .returned (.agg #[.int .i64 xx0.clock, .bool xx0.closed, .slice xx0.a xx0.n xx0.c]) := he
  have hbc8 := Race.cells (rangeAt_below box_sw0 hb3)
  simp only [Nat.zero_add] at hbc8
  have hbc9 := Race.cells (rangeAt_below hbx0_ hB3)
  simp only [Nat.zero_add] at hbc9
  have hbc10 := Step.cells (rangeAt_below hbx1_ hB3)
  simp only [Nat.zero_add] at hbc10
  have hbc11 := Race.cells (rangeAt_below (rangeAt_below box_sw0 hb3) (below_alloc (Below.refl _ _) (.cells #[.int .i64 xx0.clock, .bool xx0.closed, .slice xx0.a xx0.n xx0.c] 24)))
  simp only [Nat.zero_add] at hbc11
  have hbc12 := Race.cells (rangeAt_below (rangeAt_below hbx0_ hB3) (below_alloc (Below.refl _ _) (.cells #[.int .i64 xx0.clock, .bool xx0.closed, .slice xx0.a xx0.n xx0.c] 24)))
  simp only [Nat.zero_add] at hbc12
  have hbc13 := Step.cells (rangeAt_below (rangeAt_below hbx1_ hB3) (below_alloc (Below.refl _ _) (.cells #[.int .i64 xx0.clock, .bool xx0.closed, .slice xx0.a xx0.n xx0.c] 24)))
  simp only [Nat.zero_add] at hbc13
  go_wp2_with fail
  clear hbc8 hbc9 hbc10 hbc11 hbc12 hbc13
  have hb4 : Below w3.heap.size w3 (w3.alloc (.cells #[.int .i64 xx0.clock, .bool xx0.closed, .slice xx0.a xx0.n xx0.c] 24)) := below_alloc (Below.refl _ _) _
  have box_xx0 := Race.rangeNew w3 xx0 24
  have blt_xx0 : w3.heap.size < (w3.alloc (.cells #[.int .i64 xx0.clock, .bool xx0.closed, .slice xx0.a xx0.n xx0.c] 24)).heap.size := by simp
  generalize w3.alloc (.cells #[.int .i64 xx0.clock, .bool xx0.closed, .slice xx0.a xx0.n xx0.c] 24) = w4 at hb4 box_xx0 blt_xx0 ⊢
  have hB4 := step_ hB3 (Nat.le_refl _) hb4
  have hV0 := Lib.hid (show Below w4.heap.size w4 w4.drew from (Below.refl _ _).drew)
  have hlo0 : w4.heap.size ≤ w4.heap.size := Nat.le_refl _
  have HH := Lib.hid (show ∀ w', Below w4.heap.size w4 w' → w'.cell? ⟨w3.heap.size, 0, none⟩ = some (.int .i64 xx0.clock) ∧ w'.cell? ⟨w3.heap.size, 1, none⟩ = some (.bool xx0.closed) ∧ w'.cell? ⟨w3.heap.size, 2, none⟩ = some (.slice xx0.a xx0.n xx0.c) ∧ w'.cell? ⟨w.heap.size + 1, 0, none⟩ = some (.int .i64 x1.kind) ∧ w'.cell? ⟨w.heap.size + 1, 1, none⟩ = some (.int .i64 x1.entrant) ∧ w'.cell? ⟨w.heap.size + 1, 2, none⟩ = some (.int .i64 x1.value) from fun w' hw => by
    have a0 := rangeAt_below box_xx0 hw
    have a0_0 := a0 0 _ rfl
    have a0_1 := a0 1 _ rfl
    have a0_2 := a0 2 _ rfl
    have a1 := rangeAt_below hbx1_ (step_ hB4 (Nat.le_refl _) hw)
    have a1_0 := a1 0 _ rfl
    have a1_1 := a1 1 _ rfl
    have a1_2 := a1 2 _ rfl
    simp only [Nat.zero_add] at a0_0 a0_1 a0_2 a1_0 a1_1 a1_2
    exact ⟨a0_0, a0_1, a0_2, a1_0, a1_1, a1_2⟩)
  apply join3 (F := fun (W : World) (B : Nat) (p : Race) => p.k = (strV x0.k x1) ∧ RaceR w4.heap.size W p ∧ World.rangeAt W B 0 p.lst ∧ Below w4.heap.size w4 W ∧ w4.heap.size ≤ B ∧ B < W.heap.size ∧ ∀ k, RaceBlk p k → k ≠ B)
  · intro hk
    go_region_held3 (fun w' => w'.cell? ⟨w3.heap.size, 0, none⟩ = some (.int .i64 xx0.clock) ∧ w'.cell? ⟨w3.heap.size, 1, none⟩ = some (.bool xx0.closed) ∧ w'.cell? ⟨w3.heap.size, 2, none⟩ = some (.slice xx0.a xx0.n xx0.c) ∧ w'.cell? ⟨w.heap.size + 1, 0, none⟩ = some (.int .i64 x1.kind) ∧ w'.cell? ⟨w.heap.size + 1, 1, none⟩ = some (.int .i64 x1.entrant) ∧ w'.cell? ⟨w.heap.size + 1, 2, none⟩ = some (.int .i64 x1.value)) (exact HH.out _ (by repeat (first | (with_reducible exact hV2.out) | (with_reducible exact hV1.out) | (with_reducible exact hV0.out) | (with_reducible exact Below.refl _ _) | (with_reducible refine Below.drew ?_) | (with_reducible refine below_alloc ?_ _) | (with_reducible refine Below.setCell ?_ (by first | (with_reducible exact hlo2) | (with_reducible exact hlo1) | (with_reducible exact hlo0)) _))))
      (first
        | (go_at_call 37; have hbase1 := hV0.out.size; refine (toRaceStep_any x1 w4.drew).mono ?_; rintro e v1 ⟨rfl, hv1⟩; have hV1 := Lib.hid (step_ hV0.out (Nat.le_refl _) hv1); have hlo1 := hV1.out.size; skip)
        | (go_at_call 37; have hz := below_alloc (Below.refl w4.drew.heap.size w4.drew) (.cells #[.int .i64 0, .bool false, .slice none 0 0] 24); have hVz := step_ hV0.out (Nat.le_refl _) hz; have HZz := Lib.hid (show LitAt (w4.drew.alloc (.cells #[.int .i64 0, .bool false, .slice none 0 0] 24)) w4.heap.size 24 [.int .i64 0, .bool false, .slice none 0 0] from LitAt.new w4.drew _ _ _ rfl); have hbase1 := hVz.size; refine (toRaceStep_any x1 (w4.drew.alloc (.cells #[.int .i64 0, .bool false, .slice none 0 0] 24))).mono ?_; rintro e v1 ⟨rfl, hvz⟩; have hv1 := step_ hz (Nat.le_refl _) hvz; have hV1 := Lib.hid (step_ hV0.out (Nat.le_refl _) hv1); have hlo1 := hV1.out.size; have HZ0 := Lib.hid (HZz.out.below hvz); clear HZz hVz; skip)
        | (go_at_call 38; (try (have hlt0 := HZ0.out.lt)); have hbase2 := hV1.out.size; refine (impl_StepRace xx0 x0.k x1 v1 kxx0 ((row_xx0.below hb4).below hV1.out).s ho1).mono ?_; rintro e v2 ⟨sg0, rfl, ksg0, row_sg0, hv2⟩; have hV2 := Lib.hid (step_ hV1.out (Nat.le_refl _) hv2); have hlo2 := hV2.out.size; (try (have HZ0 := Lib.hid (HZ0.out.below hv2))); (try (have z00 := HZ0.out.range 0 _ rfl; have z01 := HZ0.out.range 1 _ rfl; have z02 := HZ0.out.range 2 _ rfl; have zf0 := HZ0.out.frozen; simp only [Nat.zero_add] at z00 z01 z02)))
        | (go_at_call 38; have hz := below_alloc (Below.refl v1.heap.size v1) (.cells #[.int .i64 0, .bool false, .slice none 0 0] 24); have hVz := step_ hV1.out (Nat.le_refl _) hz; have HZz := Lib.hid (show LitAt (v1.alloc (.cells #[.int .i64 0, .bool false, .slice none 0 0] 24)) v1.heap.size 24 [.int .i64 0, .bool false, .slice none 0 0] from LitAt.new v1 _ _ _ rfl); have hlt1 := HZz.out.lt; have hbase2 := hVz.size; refine (impl_StepRace xx0 x0.k x1 (v1.alloc (.cells #[.int .i64 0, .bool false, .slice none 0 0] 24)) kxx0 ((row_xx0.below hb4).below hVz).s ho1).mono ?_; rintro e v2 ⟨sg0, rfl, ksg0, row_sg0, hvz⟩; have hv2 := step_ hz (Nat.le_refl _) hvz; have hV2 := Lib.hid (step_ hV1.out (Nat.le_refl _) hv2); have hlo2 := hV2.out.size; have HZ1 := Lib.hid (HZz.out.below hvz); clear HZz hVz; (try (have z10 := HZ1.out.range 0 _ rfl; have z11 := HZ1.out.range 1 _ rfl; have z12 := HZ1.out.range 2 _ rfl; have zf1 := HZ1.out.frozen; simp only [Nat.zero_add] at z10 z11 z12))))
    all_goals first
      | (have _ := HZ0
         obtain ⟨B_, hBe⟩ : ∃ b, b = w4.heap.size := ⟨_, rfl⟩
         have HF : sg0.k = (strV x0.k x1) ∧ RaceR w4.heap.size (((v2.setCell ⟨B_, 0, none⟩ (.int .i64 sg0.clock)).setCell ⟨B_, 1, none⟩ (.bool sg0.closed)).setCell ⟨B_, 2, none⟩ (.slice sg0.a sg0.n sg0.c)) sg0 ∧ World.rangeAt (((v2.setCell ⟨B_, 0, none⟩ (.int .i64 sg0.clock)).setCell ⟨B_, 1, none⟩ (.bool sg0.closed)).setCell ⟨B_, 2, none⟩ (.slice sg0.a sg0.n sg0.c)) B_ 0 sg0.lst ∧ Below w4.heap.size w4 (((v2.setCell ⟨B_, 0, none⟩ (.int .i64 sg0.clock)).setCell ⟨B_, 1, none⟩ (.bool sg0.closed)).setCell ⟨B_, 2, none⟩ (.slice sg0.a sg0.n sg0.c)) ∧ w4.heap.size ≤ B_ ∧ B_ < (((v2.setCell ⟨B_, 0, none⟩ (.int .i64 sg0.clock)).setCell ⟨B_, 1, none⟩ (.bool sg0.closed)).setCell ⟨B_, 2, none⟩ (.slice sg0.a sg0.n sg0.c)).heap.size ∧ ∀ k, RaceBlk sg0 k → k ≠ B_ := by
           subst hBe
           exact ⟨ksg0, RaceR.mono (((row_sg0.setOther hlt0 _).setOther hlt0 _).setOther hlt0 _) hbase2, (((HZ0.out.set 0 (.int .i64 sg0.clock)).set 1 (.bool sg0.closed)).set 2 (.slice sg0.a sg0.n sg0.c)).range, (((hV2.out.setCell hlo0 _).setCell hlo0 _).setCell hlo0 _), hlo0, by simpa using HZ0.out.lt, fun k hk => by have h1 := (RaceR.lt row_sg0 k hk).1; omega⟩
         rw [← hBe]
         generalize (((v2.setCell ⟨B_, 0, none⟩ (.int .i64 sg0.clock)).setCell ⟨B_, 1, none⟩ (.bool sg0.closed)).setCell ⟨B_, 2, none⟩ (.slice sg0.a sg0.n sg0.c)) = WF at HF ⊢
         exact hk WF B_ sg0 HF)
      | (have _ := HZ1
         obtain ⟨B_, hBe⟩ : ∃ b, b = v1.heap.size := ⟨_, rfl⟩
         have HF : sg0.k = (strV x0.k x1) ∧ RaceR w4.heap.size (((v2.setCell ⟨B_, 0, none⟩ (.int .i64 sg0.clock)).setCell ⟨B_, 1, none⟩ (.bool sg0.closed)).setCell ⟨B_, 2, none⟩ (.slice sg0.a sg0.n sg0.c)) sg0 ∧ World.rangeAt (((v2.setCell ⟨B_, 0, none⟩ (.int .i64 sg0.clock)).setCell ⟨B_, 1, none⟩ (.bool sg0.closed)).setCell ⟨B_, 2, none⟩ (.slice sg0.a sg0.n sg0.c)) B_ 0 sg0.lst ∧ Below w4.heap.size w4 (((v2.setCell ⟨B_, 0, none⟩ (.int .i64 sg0.clock)).setCell ⟨B_, 1, none⟩ (.bool sg0.closed)).setCell ⟨B_, 2, none⟩ (.slice sg0.a sg0.n sg0.c)) ∧ w4.heap.size ≤ B_ ∧ B_ < (((v2.setCell ⟨B_, 0, none⟩ (.int .i64 sg0.clock)).setCell ⟨B_, 1, none⟩ (.bool sg0.closed)).setCell ⟨B_, 2, none⟩ (.slice sg0.a sg0.n sg0.c)).heap.size ∧ ∀ k, RaceBlk sg0 k → k ≠ B_ := by
           subst hBe
           exact ⟨ksg0, RaceR.mono (((row_sg0.setOther hlt1 _).setOther hlt1 _).setOther hlt1 _) hbase2, (((HZ1.out.set 0 (.int .i64 sg0.clock)).set 1 (.bool sg0.closed)).set 2 (.slice sg0.a sg0.n sg0.c)).range, (((hV2.out.setCell hlo1 _).setCell hlo1 _).setCell hlo1 _), hlo1, by simpa using HZ1.out.lt, fun k hk => by have h1 := (RaceR.lt row_sg0 k hk).1; omega⟩
         rw [← hBe]
         generalize (((v2.setCell ⟨B_, 0, none⟩ (.int .i64 sg0.clock)).setCell ⟨B_, 1, none⟩ (.bool sg0.closed)).setCell ⟨B_, 2, none⟩ (.slice sg0.a sg0.n sg0.c)) = WF at HF ⊢
         exact hk WF B_ sg0 HF)
      | (obtain ⟨B_, hBe⟩ : ∃ b, b = v2.heap.size := ⟨_, rfl⟩
         have HF : sg0.k = (strV x0.k x1) ∧ RaceR w4.heap.size (v2.alloc (.cells #[.int .i64 sg0.clock, .bool sg0.closed, .slice sg0.a sg0.n sg0.c] 24)) sg0 ∧ World.rangeAt (v2.alloc (.cells #[.int .i64 sg0.clock, .bool sg0.closed, .slice sg0.a sg0.n sg0.c] 24)) B_ 0 sg0.lst ∧ Below w4.heap.size w4 (v2.alloc (.cells #[.int .i64 sg0.clock, .bool sg0.closed, .slice sg0.a sg0.n sg0.c] 24)) ∧ w4.heap.size ≤ B_ ∧ B_ < (v2.alloc (.cells #[.int .i64 sg0.clock, .bool sg0.closed, .slice sg0.a sg0.n sg0.c] 24)).heap.size ∧ ∀ k, RaceBlk sg0 k → k ≠ B_ := by
           subst hBe
           exact ⟨ksg0, RaceR.below (RaceR.mono row_sg0 hbase2) (below_alloc (Below.refl _ _) _), Race.rangeNew v2 sg0 24, below_alloc hV2.out _, hlo2, by simp, fun k hk => by have h1 := (RaceR.lt row_sg0 k hk).2; omega⟩
         rw [← hBe]
         generalize (v2.alloc (.cells #[.int .i64 sg0.clock, .bool sg0.closed, .slice sg0.a sg0.n sg0.c] 24)) = WF at HF ⊢
         exact hk WF B_ sg0 HF)
  rintro w5 blk_sg0 sg0 ⟨ksg0, row_sg0, box_sg0, hb5, blo_sg0, blt_sg0, hne_sg0⟩
  have hB5 := step_ hB4 (Nat.le_refl _) hb5
  have hbc14 := Race.cells (rangeAt_below (rangeAt_below (rangeAt_below box_sw0 hb3) hb4) hb5)
  simp only [Nat.zero_add] at hbc14
  have hbc15 := Race.cells (rangeAt_below box_xx0 hb5)
  simp only [Nat.zero_add] at hbc15
  have hbc16 := Race.cells box_sg0
  simp only [Nat.zero_add] at hbc16
  have hbc17 := Race.cells (rangeAt_below hbx0_ hB5)
  simp only [Nat.zero_add] at hbc17
  have hbc18 := Step.cells (rangeAt_below hbx1_ hB5)
  simp only [Nat.zero_add] at hbc18
  go_wp2_with fail
  clear hbc14 hbc15 hbc16 hbc17 hbc18
  refine (eqRace_refl sg0 sw0 _ (ksg0.trans ksw0.symm) row_sg0.s (((row_sw0.below hb3).below hb4).below hb5).s).mono ?_
  rintro e w6 ⟨rfl, hb6⟩
  have hB6 := step_ hB5 (Nat.le_refl _) hb6
  have hbc19 := Race.cells (rangeAt_below (rangeAt_below (rangeAt_below (rangeAt_below box_sw0 hb3) hb4) hb5) hb6)
  simp only [Nat.zero_add] at hbc19
  have hbc20 := Race.cells (rangeAt_below (rangeAt_below box_xx0 hb5) hb6)
  simp only [Nat.zero_add] at hbc20
  have hbc21 := Race.cells (rangeAt_below box_sg0 hb6)
  simp only [Nat.zero_add] at hbc21
  have hbc22 := Race.cells (rangeAt_below hbx0_ hB6)
  simp only [Nat.zero_add] at hbc22
  have hbc23 := Step.cells (rangeAt_below hbx1_ hB6)
  simp only [Nat.zero_add] at hbc23
  go_wp2_with fail
  clear hbc19 hbc20 hbc21 hbc22 hbc23
  have hb7 : Below w6.heap.size w6 w6.drew := (Below.refl _ _).drew
  have hB7 := step_ hB6 (Nat.le_refl _) hb7
  have hR7 := hb7
  have HH := Lib.hid (show ∀ w', Below w6.heap.size w6 w' → w'.cell? ⟨w3.heap.size, 0, none⟩ = some (.int .i64 xx0.clock) ∧ w'.cell? ⟨w3.heap.size, 1, none⟩ = some (.bool xx0.closed) ∧ w'.cell? ⟨w3.heap.size, 2, none⟩ = some (.slice xx0.a xx0.n xx0.c) ∧ w'.cell? ⟨w.heap.size, 0, none⟩ = some (.int .i64 x0.clock) ∧ w'.cell? ⟨w.heap.size, 1, none⟩ = some (.bool x0.closed) ∧ w'.cell? ⟨w.heap.size, 2, none⟩ = some (.slice x0.a x0.n x0.c) from fun w' hw => by
    have a0 := rangeAt_below (rangeAt_below (rangeAt_below box_xx0 hb5) hb6) hw
    have a0_0 := a0 0 _ rfl
    have a0_1 := a0 1 _ rfl
    have a0_2 := a0 2 _ rfl
    have a1 := rangeAt_below hbx0_ (step_ hB6 (Nat.le_refl _) hw)
    have a1_0 := a1 0 _ rfl
    have a1_1 := a1 1 _ rfl
    have a1_2 := a1 2 _ rfl
    simp only [Nat.zero_add] at a0_0 a0_1 a0_2 a1_0 a1_1 a1_2
    exact ⟨a0_0, a0_1, a0_2, a1_0, a1_1, a1_2⟩)
  go_region_held3 (fun w' => w'.cell? ⟨w3.heap.size, 0, none⟩ = some (.int .i64 xx0.clock) ∧ w'.cell? ⟨w3.heap.size, 1, none⟩ = some (.bool xx0.closed) ∧ w'.cell? ⟨w3.heap.size, 2, none⟩ = some (.slice xx0.a xx0.n xx0.c) ∧ w'.cell? ⟨w.heap.size, 0, none⟩ = some (.int .i64 x0.clock) ∧ w'.cell? ⟨w.heap.size, 1, none⟩ = some (.bool x0.closed) ∧ w'.cell? ⟨w.heap.size, 2, none⟩ = some (.slice x0.a x0.n x0.c)) (exact HH.out _ (by first | (with_reducible exact hR9) | (with_reducible exact hR8) | (with_reducible exact hR7)))
    (first
      | (go_at_call 20; refine (toRace_any x0 _ (h0.below hB7) HN0.out.1 HN0.out.2).mono ?_; rintro e w8 ⟨cc0, he, kcc0, row_cc0, hb8⟩; have hB8 := step_ hB7 (Nat.le_refl _) hb8; obtain rfl : e = .returned (.agg #[.int .i64 cc0.clock, .bool cc0.closed, .slice cc0.a cc0.n cc0.c]) := he; have hR8 := step_ hR7 (Nat.le_refl _) hb8)
      | (go_at_call 15; refine (eqRace_refl xx0 cc0 _ (kxx0.trans kcc0.symm) (((((row_xx0.below hb4).below hb5).below hb6).below hb7).below hb8).s row_cc0.s).mono ?_; rintro e w9 ⟨rfl, hb9⟩; have hB9 := step_ hB8 (Nat.le_refl _) hb9; have hR9 := step_ hR8 (Nat.le_refl _) hb9))
  have hln_sg0 := lenRace_small ksg0 hlen0
  have hbc24 := Race.cells (rangeAt_below (rangeAt_below (rangeAt_below (rangeAt_below (rangeAt_below (rangeAt_below (rangeAt_below box_sw0 hb3) hb4) hb5) hb6) hb7) hb8) hb9)
  simp only [Nat.zero_add] at hbc24
  have hbc25 := Race.cells (rangeAt_below (rangeAt_below (rangeAt_below (rangeAt_below (rangeAt_below box_xx0 hb5) hb6) hb7) hb8) hb9)
  simp only [Nat.zero_add] at hbc25
  have hbc26 := Race.cells (rangeAt_below (rangeAt_below (rangeAt_below (rangeAt_below box_sg0 hb6) hb7) hb8) hb9)
  simp only [Nat.zero_add] at hbc26
  have hbc27 := Race.cells (rangeAt_below hbx0_ hB9)
  simp only [Nat.zero_add] at hbc27
  have hbc28 := Step.cells (rangeAt_below hbx1_ hB9)
  simp only [Nat.zero_add] at hbc28
  go_wp2_with fail
  clear hbc24 hbc25 hbc26 hbc27 hbc28
  refine (markRace_fr _ xx0 1 _ ((((((row_xx0.below hb4).below hb5).below hb6).below hb7).below hb8).below hb9) (by omega) (by omega) (lensRace_ kxx0 HN0.out)).mono ?_
  rintro e w10 ⟨mk10, rfl, hm010, hm110, hg10⟩
  have hB10 := below_kept hB9 hg10 (fun k hk => Nat.le_trans hB2.size (row_xx0.lt k hk).1) hB9.size
  have cur10_sg0 := RaceR.keptOff ((((row_sg0.below hb6).below hb7).below hb8).below hb9) hg10 (fun k hk hs => by have h1 := (row_sg0.lt k hk).1; have h2 := (row_xx0.lt k hs).2; have h3 : w3.heap.size ≤ w4.heap.size := (Nat.le_trans (Nat.le_refl _) hb4.size); omega)
  have cur10_sw0 := RaceR.keptOff (((((((row_sw0.below hb3).below hb4).below hb5).below hb6).below hb7).below hb8).below hb9) hg10 (fun k hk hs => by have h1 := (row_sw0.lt k hk).2; have h2 := (row_xx0.lt k hs).1; have h3 : w2.heap.size ≤ w2.heap.size := (Nat.le_refl _); omega)
  have bcur10_sw0 := range_keptOff (rangeAt_below (rangeAt_below (rangeAt_below (rangeAt_below (rangeAt_below (rangeAt_below (rangeAt_below box_sw0 hb3) hb4) hb5) hb6) hb7) hb8) hb9) hg10 (fun hs => by have h1 := (row_xx0.lt _ hs).1; have h3 : w2.heap.size ≤ w2.heap.size := (Nat.le_refl _); have h4 := blt_sw0; omega)
  have bcur10_xx0 := range_keptOff (rangeAt_below (rangeAt_below (rangeAt_below (rangeAt_below (rangeAt_below box_xx0 hb5) hb6) hb7) hb8) hb9) hg10 (fun hs => by have h2 := (row_xx0.lt _ hs).2; have h3 : w3.heap.size ≤ w3.heap.size := (Nat.le_refl _); omega)
  have bcur10_sg0 := range_keptOff (rangeAt_below (rangeAt_below (rangeAt_below (rangeAt_below box_sg0 hb6) hb7) hb8) hb9) hg10 (fun hs => by have h2 := (row_xx0.lt _ hs).2; have h3 : w3.heap.size ≤ blk_sg0 := Nat.le_trans ((Nat.le_trans (Nat.le_refl _) hb4.size)) blo_sg0; omega)
  have hbc29 := Race.cells bcur10_sw0
  simp only [Nat.zero_add] at hbc29
  have hbc30 := Race.cells bcur10_xx0
  simp only [Nat.zero_add] at hbc30
  have hbc31 := Race.cells bcur10_sg0
  simp only [Nat.zero_add] at hbc31
  have hbc32 := Race.cells (rangeAt_below hbx0_ hB10)
  simp only [Nat.zero_add] at hbc32
  have hbc33 := Step.cells (rangeAt_below hbx1_ hB10)
  simp only [Nat.zero_add] at hbc33
  go_wp2_with fail
  clear hbc29 hbc30 hbc31 hbc32 hbc33
  refine (eqRace_refl sg0 sw0 _ (ksg0.trans ksw0.symm) cur10_sg0.s cur10_sw0.s).mono ?_
  rintro e w11 ⟨rfl, hb11⟩
  have hB11 := step_ hB10 (Nat.le_refl _) hb11
  have hbc34 := Race.cells (rangeAt_below bcur10_sw0 hb11)
  simp only [Nat.zero_add] at hbc34
  have hbc35 := Race.cells (rangeAt_below bcur10_xx0 hb11)
  simp only [Nat.zero_add] at hbc35
  have hbc36 := Race.cells (rangeAt_below bcur10_sg0 hb11)
  simp only [Nat.zero_add] at hbc36
  have hbc37 := Race.cells (rangeAt_below hbx0_ hB11)
  simp only [Nat.zero_add] at hbc37
  have hbc38 := Step.cells (rangeAt_below hbx1_ hB11)
  simp only [Nat.zero_add] at hbc38
  go_wp2_with fail
  clear hbc34 hbc35 hbc36 hbc37 hbc38
  have hbd_sg0 := entEnd_bd sg0.zs 1 (by omega) (by omega) hln_sg0
  refine (markRace_any _ sg0 1 _ (cur10_sg0.below hb11) (by omega) (by omega) hln_sg0).mono ?_
  rintro e w12 ⟨rfl, ⟨ysg0, rowm_sg0, km_sg0⟩, hg12⟩
  obtain ⟨mk12, HMK_sg0⟩ : ∃ m, m = entEnd 1 (entLens sg0.zs) := ⟨_, rfl⟩
  rw [← HMK_sg0] at hbd_sg0
  simp only [← HMK_sg0]
  have HMK_sg0 := Lib.hid HMK_sg0
  obtain ⟨hbl_sg0, hbu_sg0⟩ := hbd_sg0
  have hB12 := below_kept hB11 hg12 (fun k hk => Nat.le_trans hB4.size (row_sg0.lt k hk).1) hB11.size
  have cur12_sw0 := RaceR.keptOff (cur10_sw0.below hb11) hg12 (fun k hk hs => by have h1 := (row_sw0.lt k hk).2; have h2 := (row_sg0.lt k hs).1; have h3 : w2.heap.size ≤ w4.heap.size := (Nat.le_trans (Nat.le_trans (Nat.le_refl _) hb3.size) hb4.size); omega)
  have bcur12_sw0 := range_keptOff (rangeAt_below bcur10_sw0 hb11) hg12 (fun hs => by have h1 := (row_sg0.lt _ hs).1; have h3 : w2.heap.size ≤ w4.heap.size := (Nat.le_trans (Nat.le_trans (Nat.le_refl _) hb3.size) hb4.size); have h4 := blt_sw0; omega)
  have bcur12_xx0 := range_keptOff (rangeAt_below bcur10_xx0 hb11) hg12 (fun hs => by have h1 := (row_sg0.lt _ hs).1; have h3 : w4.heap.size ≤ w4.heap.size := (Nat.le_refl _); have h4 := blt_xx0; omega)
  have bcur12_sg0 := range_keptOff (rangeAt_below bcur10_sg0 hb11) hg12 (fun hs => hne_sg0 _ hs rfl)
  have hbc39 := Race.cells bcur12_sw0
  simp only [Nat.zero_add] at hbc39
  have hbc40 := Race.cells bcur12_xx0
  simp only [Nat.zero_add] at hbc40
  have hbc41 := Race.cells bcur12_sg0
  simp only [Nat.zero_add] at hbc41
  have hbc42 := Race.cells (rangeAt_below hbx0_ hB12)
  simp only [Nat.zero_add] at hbc42
  have hbc43 := Step.cells (rangeAt_below hbx1_ hB12)
  simp only [Nat.zero_add] at hbc43
  go_wp2_with fail
  clear hbc39 hbc40 hbc41 hbc42 hbc43
  refine (heldRace_any sg0 ysg0 (entLens sg0.zs) 1 _ rowm_sg0.s km_sg0 (by omega) (by omega) (by simp [entLens]; exact hln_sg0.1) (fun a ha => by obtain ⟨z, hz, rfl⟩ := List.mem_map.1 ha; exact hln_sg0.2 z hz)).mono ?_
  rintro e w13 ⟨rfl, hb13⟩
  have hB13 := step_ hB12 (Nat.le_refl _) hb13
  simp only [← HMK_sg0.out]
  have hbc44 := Race.cells (rangeAt_below bcur12_sw0 hb13)
  simp only [Nat.zero_add] at hbc44
  have hbc45 := Race.cells (rangeAt_below bcur12_xx0 hb13)
  simp only [Nat.zero_add] at hbc45
  have hbc46 := Race.cells (rangeAt_below bcur12_sg0 hb13)
  simp only [Nat.zero_add] at hbc46
  have hbc47 := Race.cells (rangeAt_below hbx0_ hB13)
  simp only [Nat.zero_add] at hbc47
  have hbc48 := Step.cells (rangeAt_below hbx1_ hB13)
  simp only [Nat.zero_add] at hbc48
  go_wp2_with fail
  clear hbc44 hbc45 hbc46 hbc47 hbc48
  have hV0 := Lib.hid (show Below w13.heap.size w13 w13.drew from (Below.refl _ _).drew)
  have hlo0 : w13.heap.size ≤ w13.heap.size := Nat.le_refl _
  have HH := Lib.hid (show ∀ w', Below w13.heap.size w13 w' → w'.cell? ⟨w.heap.size, 0, none⟩ = some (.int .i64 x0.clock) ∧ w'.cell? ⟨w.heap.size, 1, none⟩ = some (.bool x0.closed) ∧ w'.cell? ⟨w.heap.size, 2, none⟩ = some (.slice x0.a x0.n x0.c) ∧ w'.cell? ⟨w.heap.size + 1, 0, none⟩ = some (.int .i64 x1.kind) ∧ w'.cell? ⟨w.heap.size + 1, 1, none⟩ = some (.int .i64 x1.entrant) ∧ w'.cell? ⟨w.heap.size + 1, 2, none⟩ = some (.int .i64 x1.value) from fun w' hw => by
    have a0 := rangeAt_below hbx0_ (step_ hB13 (Nat.le_refl _) hw)
    have a0_0 := a0 0 _ rfl
    have a0_1 := a0 1 _ rfl
    have a0_2 := a0 2 _ rfl
    have a1 := rangeAt_below hbx1_ (step_ hB13 (Nat.le_refl _) hw)
    have a1_0 := a1 0 _ rfl
    have a1_1 := a1 1 _ rfl
    have a1_2 := a1 2 _ rfl
    simp only [Nat.zero_add] at a0_0 a0_1 a0_2 a1_0 a1_1 a1_2
    exact ⟨a0_0, a0_1, a0_2, a1_0, a1_1, a1_2⟩)
  apply join4 (F := fun (W : World) (B : Nat) (p : Race) (a : Race) => p.k = (strV x0.k x1) ∧ RaceR w13.heap.size W p ∧ World.rangeAt W B 0 p.lst ∧ Below w13.heap.size w13 W ∧ w13.heap.size ≤ B ∧ B < W.heap.size ∧ ∀ k, RaceBlk p k → k ≠ B)
  · intro hk
    go_region_held3 (fun w' => w'.cell? ⟨w.heap.size, 0, none⟩ = some (.int .i64 x0.clock) ∧ w'.cell? ⟨w.heap.size, 1, none⟩ = some (.bool x0.closed) ∧ w'.cell? ⟨w.heap.size, 2, none⟩ = some (.slice x0.a x0.n x0.c) ∧ w'.cell? ⟨w.heap.size + 1, 0, none⟩ = some (.int .i64 x1.kind) ∧ w'.cell? ⟨w.heap.size + 1, 1, none⟩ = some (.int .i64 x1.entrant) ∧ w'.cell? ⟨w.heap.size + 1, 2, none⟩ = some (.int .i64 x1.value)) (exact HH.out _ (by repeat (first | (with_reducible exact hV3.out) | (with_reducible exact hV2.out) | (with_reducible exact hV1.out) | (with_reducible exact hV0.out) | (with_reducible exact Below.refl _ _) | (with_reducible refine Below.drew ?_) | (with_reducible refine below_alloc ?_ _) | (with_reducible refine Below.setCell ?_ (by first | (with_reducible exact hlo3) | (with_reducible exact hlo2) | (with_reducible exact hlo1) | (with_reducible exact hlo0)) _))))
      (first
        | (go_at_call 20; have hbase1 := hV0.out.size; refine (toRace_any x0 w13.drew (h0.below (step_ hB13 (Nat.le_refl _) hV0.out)) HN0.out.1 HN0.out.2).mono ?_; rintro e v1 ⟨a0, he, ka0, row_a0, hv1⟩; have hV1 := Lib.hid (step_ hV0.out (Nat.le_refl _) hv1); have hlo1 := hV1.out.size; obtain rfl : e = .returned (.agg #[.int .i64 a0.clock, .bool a0.closed, .slice a0.a a0.n a0.c]) := he)
        | (go_at_call 20; have hz := below_alloc (Below.refl w13.drew.heap.size w13.drew) (.cells #[.int .i64 0, .bool false, .slice none 0 0] 24); have hVz := step_ hV0.out (Nat.le_refl _) hz; have HZz := Lib.hid (show LitAt (w13.drew.alloc (.cells #[.int .i64 0, .bool false, .slice none 0 0] 24)) w13.heap.size 24 [.int .i64 0, .bool false, .slice none 0 0] from LitAt.new w13.drew _ _ _ rfl); have hbase1 := hVz.size; refine (toRace_any x0 (w13.drew.alloc (.cells #[.int .i64 0, .bool false, .slice none 0 0] 24)) (h0.below (step_ hB13 (Nat.le_refl _) hVz)) HN0.out.1 HN0.out.2).mono ?_; rintro e v1 ⟨a0, he, ka0, row_a0, hvz⟩; have hv1 := step_ hz (Nat.le_refl _) hvz; have hV1 := Lib.hid (step_ hV0.out (Nat.le_refl _) hv1); have hlo1 := hV1.out.size; have HZ0 := Lib.hid (HZz.out.below hvz); clear HZz hVz; obtain rfl : e = .returned (.agg #[.int .i64 a0.clock, .bool a0.closed, .slice a0.a a0.n a0.c]) := he)
        | (go_at_call 37; have hbase2 := hV1.out.size; refine (toRaceStep_any x1 v1).mono ?_; rintro e v2 ⟨rfl, hv2⟩; have hV2 := Lib.hid (step_ hV1.out (Nat.le_refl _) hv2); have hlo2 := hV2.out.size; (try (have HZ0 := Lib.hid (HZ0.out.below hv2))); skip)
        | (go_at_call 37; have hz := below_alloc (Below.refl v1.heap.size v1) (.cells #[.int .i64 0, .bool false, .slice none 0 0] 24); have hVz := step_ hV1.out (Nat.le_refl _) hz; have HZz := Lib.hid (show LitAt (v1.alloc (.cells #[.int .i64 0, .bool false, .slice none 0 0] 24)) v1.heap.size 24 [.int .i64 0, .bool false, .slice none 0 0] from LitAt.new v1 _ _ _ rfl); have hbase2 := hVz.size; refine (toRaceStep_any x1 (v1.alloc (.cells #[.int .i64 0, .bool false, .slice none 0 0] 24))).mono ?_; rintro e v2 ⟨rfl, hvz⟩; have hv2 := step_ hz (Nat.le_refl _) hvz; have hV2 := Lib.hid (step_ hV1.out (Nat.le_refl _) hv2); have hlo2 := hV2.out.size; have HZ1 := Lib.hid (HZz.out.below hvz); clear HZz hVz; skip)
        | (go_at_call 38; (try (have hlt0 := HZ0.out.lt)); (try (have hlt1 := HZ1.out.lt)); have hbase3 := hV2.out.size; refine (impl_StepRace a0 x0.k x1 v2 ka0 (row_a0.below hv2).s ho1).mono ?_; rintro e v3 ⟨sh0, rfl, ksh0, row_sh0, hv3⟩; have hV3 := Lib.hid (step_ hV2.out (Nat.le_refl _) hv3); have hlo3 := hV3.out.size; (try (have HZ0 := Lib.hid (HZ0.out.below hv3))); (try (have HZ1 := Lib.hid (HZ1.out.below hv3))); (try (have z00 := HZ0.out.range 0 _ rfl; have z01 := HZ0.out.range 1 _ rfl; have z02 := HZ0.out.range 2 _ rfl; have zf0 := HZ0.out.frozen; simp only [Nat.zero_add] at z00 z01 z02)); (try (have z10 := HZ1.out.range 0 _ rfl; have z11 := HZ1.out.range 1 _ rfl; have z12 := HZ1.out.range 2 _ rfl; have zf1 := HZ1.out.frozen; simp only [Nat.zero_add] at z10 z11 z12)))
        | (go_at_call 38; have hz := below_alloc (Below.refl v2.heap.size v2) (.cells #[.int .i64 0, .bool false, .slice none 0 0] 24); have hVz := step_ hV2.out (Nat.le_refl _) hz; have HZz := Lib.hid (show LitAt (v2.alloc (.cells #[.int .i64 0, .bool false, .slice none 0 0] 24)) v2.heap.size 24 [.int .i64 0, .bool false, .slice none 0 0] from LitAt.new v2 _ _ _ rfl); have hlt2 := HZz.out.lt; have hbase3 := hVz.size; refine (impl_StepRace a0 x0.k x1 (v2.alloc (.cells #[.int .i64 0, .bool false, .slice none 0 0] 24)) ka0 ((row_a0.below hv2).below hz).s ho1).mono ?_; rintro e v3 ⟨sh0, rfl, ksh0, row_sh0, hvz⟩; have hv3 := step_ hz (Nat.le_refl _) hvz; have hV3 := Lib.hid (step_ hV2.out (Nat.le_refl _) hv3); have hlo3 := hV3.out.size; have HZ2 := Lib.hid (HZz.out.below hvz); clear HZz hVz; (try (have z20 := HZ2.out.range 0 _ rfl; have z21 := HZ2.out.range 1 _ rfl; have z22 := HZ2.out.range 2 _ rfl; have zf2 := HZ2.out.frozen; simp only [Nat.zero_add] at z20 z21 z22))))
    all_goals first
      | (have _ := HZ0
         obtain ⟨B_, hBe⟩ : ∃ b, b = w13.heap.size := ⟨_, rfl⟩
         have HF : sh0.k = (strV x0.k x1) ∧ RaceR w13.heap.size (((v3.setCell ⟨B_, 0, none⟩ (.int .i64 sh0.clock)).setCell ⟨B_, 1, none⟩ (.bool sh0.closed)).setCell ⟨B_, 2, none⟩ (.slice sh0.a sh0.n sh0.c)) sh0 ∧ World.rangeAt (((v3.setCell ⟨B_, 0, none⟩ (.int .i64 sh0.clock)).setCell ⟨B_, 1, none⟩ (.bool sh0.closed)).setCell ⟨B_, 2, none⟩ (.slice sh0.a sh0.n sh0.c)) B_ 0 sh0.lst ∧ Below w13.heap.size w13 (((v3.setCell ⟨B_, 0, none⟩ (.int .i64 sh0.clock)).setCell ⟨B_, 1, none⟩ (.bool sh0.closed)).setCell ⟨B_, 2, none⟩ (.slice sh0.a sh0.n sh0.c)) ∧ w13.heap.size ≤ B_ ∧ B_ < (((v3.setCell ⟨B_, 0, none⟩ (.int .i64 sh0.clock)).setCell ⟨B_, 1, none⟩ (.bool sh0.closed)).setCell ⟨B_, 2, none⟩ (.slice sh0.a sh0.n sh0.c)).heap.size ∧ ∀ k, RaceBlk sh0 k → k ≠ B_ := by
           subst hBe
           exact ⟨ksh0, RaceR.mono (((row_sh0.setOther hlt0 _).setOther hlt0 _).setOther hlt0 _) hbase3, (((HZ0.out.set 0 (.int .i64 sh0.clock)).set 1 (.bool sh0.closed)).set 2 (.slice sh0.a sh0.n sh0.c)).range, (((hV3.out.setCell hlo0 _).setCell hlo0 _).setCell hlo0 _), hlo0, by simpa using HZ0.out.lt, fun k hk => by have h1 := (RaceR.lt row_sh0 k hk).1; omega⟩
         rw [← hBe]
         generalize (((v3.setCell ⟨B_, 0, none⟩ (.int .i64 sh0.clock)).setCell ⟨B_, 1, none⟩ (.bool sh0.closed)).setCell ⟨B_, 2, none⟩ (.slice sh0.a sh0.n sh0.c)) = WF at HF ⊢
         exact hk WF B_ sh0 a0 HF)
      | (have _ := HZ1
         obtain ⟨B_, hBe⟩ : ∃ b, b = v1.heap.size := ⟨_, rfl⟩
         have HF : sh0.k = (strV x0.k x1) ∧ RaceR w13.heap.size (((v3.setCell ⟨B_, 0, none⟩ (.int .i64 sh0.clock)).setCell ⟨B_, 1, none⟩ (.bool sh0.closed)).setCell ⟨B_, 2, none⟩ (.slice sh0.a sh0.n sh0.c)) sh0 ∧ World.rangeAt (((v3.setCell ⟨B_, 0, none⟩ (.int .i64 sh0.clock)).setCell ⟨B_, 1, none⟩ (.bool sh0.closed)).setCell ⟨B_, 2, none⟩ (.slice sh0.a sh0.n sh0.c)) B_ 0 sh0.lst ∧ Below w13.heap.size w13 (((v3.setCell ⟨B_, 0, none⟩ (.int .i64 sh0.clock)).setCell ⟨B_, 1, none⟩ (.bool sh0.closed)).setCell ⟨B_, 2, none⟩ (.slice sh0.a sh0.n sh0.c)) ∧ w13.heap.size ≤ B_ ∧ B_ < (((v3.setCell ⟨B_, 0, none⟩ (.int .i64 sh0.clock)).setCell ⟨B_, 1, none⟩ (.bool sh0.closed)).setCell ⟨B_, 2, none⟩ (.slice sh0.a sh0.n sh0.c)).heap.size ∧ ∀ k, RaceBlk sh0 k → k ≠ B_ := by
           subst hBe
           exact ⟨ksh0, RaceR.mono (((row_sh0.setOther hlt1 _).setOther hlt1 _).setOther hlt1 _) hbase3, (((HZ1.out.set 0 (.int .i64 sh0.clock)).set 1 (.bool sh0.closed)).set 2 (.slice sh0.a sh0.n sh0.c)).range, (((hV3.out.setCell hlo1 _).setCell hlo1 _).setCell hlo1 _), hlo1, by simpa using HZ1.out.lt, fun k hk => by have h1 := (RaceR.lt row_sh0 k hk).1; omega⟩
         rw [← hBe]
         generalize (((v3.setCell ⟨B_, 0, none⟩ (.int .i64 sh0.clock)).setCell ⟨B_, 1, none⟩ (.bool sh0.closed)).setCell ⟨B_, 2, none⟩ (.slice sh0.a sh0.n sh0.c)) = WF at HF ⊢
         exact hk WF B_ sh0 a0 HF)
      | (have _ := HZ2
         obtain ⟨B_, hBe⟩ : ∃ b, b = v2.heap.size := ⟨_, rfl⟩
         have HF : sh0.k = (strV x0.k x1) ∧ RaceR w13.heap.size (((v3.setCell ⟨B_, 0, none⟩ (.int .i64 sh0.clock)).setCell ⟨B_, 1, none⟩ (.bool sh0.closed)).setCell ⟨B_, 2, none⟩ (.slice sh0.a sh0.n sh0.c)) sh0 ∧ World.rangeAt (((v3.setCell ⟨B_, 0, none⟩ (.int .i64 sh0.clock)).setCell ⟨B_, 1, none⟩ (.bool sh0.closed)).setCell ⟨B_, 2, none⟩ (.slice sh0.a sh0.n sh0.c)) B_ 0 sh0.lst ∧ Below w13.heap.size w13 (((v3.setCell ⟨B_, 0, none⟩ (.int .i64 sh0.clock)).setCell ⟨B_, 1, none⟩ (.bool sh0.closed)).setCell ⟨B_, 2, none⟩ (.slice sh0.a sh0.n sh0.c)) ∧ w13.heap.size ≤ B_ ∧ B_ < (((v3.setCell ⟨B_, 0, none⟩ (.int .i64 sh0.clock)).setCell ⟨B_, 1, none⟩ (.bool sh0.closed)).setCell ⟨B_, 2, none⟩ (.slice sh0.a sh0.n sh0.c)).heap.size ∧ ∀ k, RaceBlk sh0 k → k ≠ B_ := by
           subst hBe
           exact ⟨ksh0, RaceR.mono (((row_sh0.setOther hlt2 _).setOther hlt2 _).setOther hlt2 _) hbase3, (((HZ2.out.set 0 (.int .i64 sh0.clock)).set 1 (.bool sh0.closed)).set 2 (.slice sh0.a sh0.n sh0.c)).range, (((hV3.out.setCell hlo2 _).setCell hlo2 _).setCell hlo2 _), hlo2, by simpa using HZ2.out.lt, fun k hk => by have h1 := (RaceR.lt row_sh0 k hk).1; omega⟩
         rw [← hBe]
         generalize (((v3.setCell ⟨B_, 0, none⟩ (.int .i64 sh0.clock)).setCell ⟨B_, 1, none⟩ (.bool sh0.closed)).setCell ⟨B_, 2, none⟩ (.slice sh0.a sh0.n sh0.c)) = WF at HF ⊢
         exact hk WF B_ sh0 a0 HF)
      | (obtain ⟨B_, hBe⟩ : ∃ b, b = v3.heap.size := ⟨_, rfl⟩
         have HF : sh0.k = (strV x0.k x1) ∧ RaceR w13.heap.size (v3.alloc (.cells #[.int .i64 sh0.clock, .bool sh0.closed, .slice sh0.a sh0.n sh0.c] 24)) sh0 ∧ World.rangeAt (v3.alloc (.cells #[.int .i64 sh0.clock, .bool sh0.closed, .slice sh0.a sh0.n sh0.c] 24)) B_ 0 sh0.lst ∧ Below w13.heap.size w13 (v3.alloc (.cells #[.int .i64 sh0.clock, .bool sh0.closed, .slice sh0.a sh0.n sh0.c] 24)) ∧ w13.heap.size ≤ B_ ∧ B_ < (v3.alloc (.cells #[.int .i64 sh0.clock, .bool sh0.closed, .slice sh0.a sh0.n sh0.c] 24)).heap.size ∧ ∀ k, RaceBlk sh0 k → k ≠ B_ := by
           subst hBe
           exact ⟨ksh0, RaceR.below (RaceR.mono row_sh0 hbase3) (below_alloc (Below.refl _ _) _), Race.rangeNew v3 sh0 24, below_alloc hV3.out _, hlo3, by simp, fun k hk => by have h1 := (RaceR.lt row_sh0 k hk).2; omega⟩
         rw [← hBe]
         generalize (v3.alloc (.cells #[.int .i64 sh0.clock, .bool sh0.closed, .slice sh0.a sh0.n sh0.c] 24)) = WF at HF ⊢
         exact hk WF B_ sh0 a0 HF)
  rintro w14 blk_sh0 sh0 _ ⟨ksh0, row_sh0, box_sh0, hb14, blo_sh0, blt_sh0, hne_sh0⟩
  have hB14 := step_ hB13 (Nat.le_refl _) hb14
  have hbc49 := Race.cells (rangeAt_below (rangeAt_below bcur12_sw0 hb13) hb14)
  simp only [Nat.zero_add] at hbc49
  have hbc50 := Race.cells (rangeAt_below (rangeAt_below bcur12_xx0 hb13) hb14)
  simp only [Nat.zero_add] at hbc50
  have hbc51 := Race.cells (rangeAt_below (rangeAt_below bcur12_sg0 hb13) hb14)
  simp only [Nat.zero_add] at hbc51
  have hbc52 := Race.cells box_sh0
  simp only [Nat.zero_add] at hbc52
  have hbc53 := Race.cells (rangeAt_below hbx0_ hB14)
  simp only [Nat.zero_add] at hbc53
  have hbc54 := Step.cells (rangeAt_below hbx1_ hB14)
  simp only [Nat.zero_add] at hbc54
  go_wp2_with fail
  clear hbc49 hbc50 hbc51 hbc52 hbc53 hbc54
  refine (eqRace_refl sh0 sw0 _ (ksh0.trans ksw0.symm) row_sh0.s ((cur12_sw0.below hb13).below hb14).s).mono ?_
  rintro e w15 ⟨rfl, hb15⟩
  have hB15 := step_ hB14 (Nat.le_refl _) hb15
  have hbc55 := Race.cells (rangeAt_below (rangeAt_below (rangeAt_below bcur12_sw0 hb13) hb14) hb15)
  simp only [Nat.zero_add] at hbc55
  have hbc56 := Race.cells (rangeAt_below (rangeAt_below (rangeAt_below bcur12_xx0 hb13) hb14) hb15)
  simp only [Nat.zero_add] at hbc56
  have hbc57 := Race.cells (rangeAt_below (rangeAt_below (rangeAt_below bcur12_sg0 hb13) hb14) hb15)
  simp only [Nat.zero_add] at hbc57
  have hbc58 := Race.cells (rangeAt_below box_sh0 hb15)
  simp only [Nat.zero_add] at hbc58
  have hbc59 := Race.cells (rangeAt_below hbx0_ hB15)
  simp only [Nat.zero_add] at hbc59
  have hbc60 := Step.cells (rangeAt_below hbx1_ hB15)
  simp only [Nat.zero_add] at hbc60
  go_wp2_with fail
  clear hbc55 hbc56 hbc57 hbc58 hbc59 hbc60
  refine (heldRace_any sg0 ysg0 (entLens sg0.zs) 1 _ (((rowm_sg0.below hb13).below hb14).below hb15).s km_sg0 (by omega) (by omega) (by simp [entLens]; exact hln_sg0.1) (fun a ha => by obtain ⟨z, hz, rfl⟩ := List.mem_map.1 ha; exact hln_sg0.2 z hz)).mono ?_
  rintro e w16 ⟨rfl, hb16⟩
  have hB16 := step_ hB15 (Nat.le_refl _) hb16
  simp only [← HMK_sg0.out]
  have hbc61 := Race.cells (rangeAt_below (rangeAt_below (rangeAt_below (rangeAt_below bcur12_sw0 hb13) hb14) hb15) hb16)
  simp only [Nat.zero_add] at hbc61
  have hbc62 := Race.cells (rangeAt_below (rangeAt_below (rangeAt_below (rangeAt_below bcur12_xx0 hb13) hb14) hb15) hb16)
  simp only [Nat.zero_add] at hbc62
  have hbc63 := Race.cells (rangeAt_below (rangeAt_below (rangeAt_below (rangeAt_below bcur12_sg0 hb13) hb14) hb15) hb16)
  simp only [Nat.zero_add] at hbc63
  have hbc64 := Race.cells (rangeAt_below (rangeAt_below box_sh0 hb15) hb16)
  simp only [Nat.zero_add] at hbc64
  have hbc65 := Race.cells (rangeAt_below hbx0_ hB16)
  simp only [Nat.zero_add] at hbc65
  have hbc66 := Step.cells (rangeAt_below hbx1_ hB16)
  simp only [Nat.zero_add] at hbc66
  go_wp2_with fail
  go_ret
  exact ⟨rfl, step_ hW (Nat.le_refl _) hB16⟩
end Go.Proofs.Ytfmgnbkneccekaa
