/- The walks of OrderAt and LegOrder, of the program. -/
import Derived.Test.YtbeonigmcbipeaaLeadAt
namespace Go.Proofs.Ytbeonigmcbipeaa
open Go Go.RowKit

theorem ordV_no {leg : Bool} {ks : List PK} {p : Int} (h : askP ks p = false) : ordV leg ks p = [] := by simp [ordV, h]
theorem ordV_yes {leg : Bool} {xs : List Pas} {P : Nat} (h : askP (xs.map Pas.k) P = true) : ordV leg (xs.map Pas.k) P = (ordK (if leg then keyL P else keyS P) P xs).map fun x => x.k.runner := by
  unfold ordV
  rw [if_pos h]
  simp only [Int.toNat_natCast]
  rw [← ordK_map, List.map_map]
  rfl
theorem ordV_len (leg : Bool) (ks : List PK) (p : Int) : (ordV leg ks p).length ≤ 10 := by
  unfold ordV
  split
  · rename_i h
    have h1 := (goodPs_iff.1 (askP_place h).1).2
    have h2 := List.length_filter_le (wasAt p.toNat) ks
    rw [List.length_map]
    unfold ordN
    rw [putAll_len]
    omega
  · simp

set_option maxHeartbeats 2000000 in
theorem impl_OrderAt (xs : List Pas) (ks : List PK) (v : Value) (p : Int) (w : World) (hks : xs.map Pas.k = ks) (h : PasS w v xs) (_ : I64 p) :
    Calls Try.prog 30 #[v, .int .i64 p] w fun e w' => ∃ r, e = .returned (.tuple #[r, .bool (askP ks p)]) ∧ Row w.heap.size 3 1 w' r ((ordV false ks p).map ints) ∧ Below w.heap.size w w' := by
  subst hks
  by_cases ha : askP (xs.map Pas.k) p = true
  rotate_left
  · have ha' : askP (xs.map Pas.k) p = false := by simpa using ha
    have HV := Lib.hid (ordV_no (leg := false) ha')
    rw [HV.out]
    have HQ := Lib.hid ha'
    clear ha ha'
    go_enter Try.func30, Try.ntmps30
    go_wp2_with (go_at_call 59; refine (isPlace_any xs p _ _ h).mono ?_; rintro e w2 ⟨rfl, hb2⟩; rw [HQ.out])
    go_ret2
    exact ⟨_, by (rw [HQ.out] <;> rfl), Row.nil _ _ _ _, hb2⟩
  obtain ⟨hg, hp0, hp3⟩ := askP_place ha
  obtain ⟨P, rfl⟩ : ∃ P : Nat, p = P := ⟨p.toNat, by omega⟩
  have hP3 : P ≤ 3 := by omega
  have HGA := Lib.hid (good_at hg)
  have hlen := goodPs_len hg
  have HV := Lib.hid (ordV_yes (leg := false) ha)
  have HQ := Lib.hid ha
  have HSL := Lib.hid h
  clear ha hg hp0 hp3 h
  go_enter Try.func30, Try.ntmps30
  go_wp2_with fail
  refine (isPlace_any xs P _ _ HSL.out).mono ?_
  rintro e w1 ⟨rfl, hb1⟩
  rw [HQ.out]
  go_wp2_with fail
  refine (splitOrder_any xs P _ _ (HSL.out.below hb1) hlen HGA.out hP3).mono ?_
  rintro e w2 ⟨o, rfl, row, hb2⟩
  have hB2 := step_ hb1 (Nat.le_refl _) hb2
  go_wp2_with fail
  refine (passingRunners_any (ordK (keyS P) P xs) _ _ (Sl.of_flat row) (by have := ordK_len (keyS P) P xs; omega)).mono ?_
  rintro e w3 ⟨r, rfl, row3, hb3⟩
  go_wp2
  go_ret2
  exact ⟨_, by (rw [HQ.out] <;> rfl), by rw [HV.out]; exact row3.mono hB2.size, step_ hB2 (Nat.le_refl _) hb3⟩

set_option maxHeartbeats 2000000 in
theorem impl_LegOrder (xs : List Pas) (ks : List PK) (v : Value) (p : Int) (w : World) (hks : xs.map Pas.k = ks) (h : PasS w v xs) (_ : I64 p) :
    Calls Try.prog 35 #[v, .int .i64 p] w fun e w' => ∃ r, e = .returned (.tuple #[r, .bool (askP ks p)]) ∧ Row w.heap.size 3 1 w' r ((ordV true ks p).map ints) ∧ Below w.heap.size w w' := by
  subst hks
  have hW : Below w.heap.size w (w.alloc (.cells #[.int .i64 p] 3)) := below_alloc (Below.refl _ _) _
  have hc : (w.alloc (.cells #[.int .i64 p] 3)).cell? ⟨w.heap.size, 0, none⟩ = some (.int .i64 p) := rangeAt_new w [.int .i64 p] 3 0 _ rfl
  by_cases ha : askP (xs.map Pas.k) p = true
  rotate_left
  · have ha' : askP (xs.map Pas.k) p = false := by simpa using ha
    have HV := Lib.hid (ordV_no (leg := true) ha')
    rw [HV.out]
    have HQ := Lib.hid ha'
    clear ha ha'
    go_enter Try.func35, Try.ntmps35
    go_wp2_with (go_at_call 59; refine (isPlace_any xs p _ _ (h.below hW)).mono ?_; rintro e w2 ⟨rfl, hb2⟩; rw [HQ.out])
    go_ret2
    exact ⟨_, by (rw [HQ.out] <;> rfl), Row.nil _ _ _ _, step_ hW (Nat.le_refl _) hb2⟩
  obtain ⟨hg, hp0, hp3⟩ := askP_place ha
  obtain ⟨P, rfl⟩ : ∃ P : Nat, p = P := ⟨p.toNat, by omega⟩
  have hP3 : P ≤ 3 := by omega
  have HGA := Lib.hid (good_at hg)
  have hlen := goodPs_len hg
  have HV := Lib.hid (ordV_yes (leg := true) ha)
  have HQ := Lib.hid ha
  have HSL := Lib.hid h
  have HW := Lib.hid hW
  clear ha hg hp0 hp3 h hW
  go_enter Try.func35, Try.ntmps35
  go_wp2_with fail
  refine (isPlace_any xs P _ _ (HSL.out.below HW.out)).mono ?_
  rintro e w1 ⟨rfl, hb1⟩
  rw [HQ.out]
  have hc1 : w1.cell? ⟨w.heap.size, 0, none⟩ = some (.int .i64 P) := After.keep hc ⟨w1, hb1⟩
  have hB1 := step_ HW.out (Nat.le_refl _) hb1
  go_wp2_with fail
  refine (orderAt_69 (keyL P) xs P rfl w.heap.size _ _ (HSL.out.below hB1) hc1 hlen HGA.out hP3).mono ?_
  rintro e w2 ⟨o, rfl, row, hb2⟩
  have hB2 := step_ hB1 (Nat.le_refl _) hb2
  go_wp2_with fail
  refine (passingRunners_any (ordK (keyL P) P xs) _ _ (Sl.of_flat row) (by have := ordK_len (keyL P) P xs; omega)).mono ?_
  rintro e w3 ⟨r, rfl, row3, hb3⟩
  go_wp2
  go_ret2
  exact ⟨_, by (rw [HQ.out] <;> rfl), by rw [HV.out]; exact row3.mono hB2.size, step_ hB2 (Nat.le_refl _) hb3⟩
end Go.Proofs.Ytbeonigmcbipeaa
