/- The walks of SeriesRank. -/
import Derived.Test.YthhlfkeikcmnlaaZStand
namespace Go.Proofs.Ythhlfkeikcmnlaa
open Go Go.RowKit

theorem rankS_more {xs : List Score} {m r : Int} {l : List Int} {k : Nat} (h : k < l.length) (hc : cmpStand xs m l[k] r < 0) : rankS xs m r (l.take (k + 1)) = rankS xs m r (l.take k) + 1 := by
  rw [rankS_step _ _ _ _ _ h, if_pos hc]
theorem rankS_same {xs : List Score} {m r : Int} {l : List Int} {k : Nat} (h : k < l.length) (hc : ¬ cmpStand xs m l[k] r < 0) : rankS xs m r (l.take (k + 1)) = rankS xs m r (l.take k) := by
  rw [rankS_step _ _ _ _ _ h, if_neg hc]; omega

set_option maxHeartbeats 4000000 in
theorem impl_SeriesRank (n m : Int) (x : List Score) (v : Value) (r : Int) (w : World) (_ : I64 n) (_ : I64 m) (h : Sl (Flat Score.lst) 3 w v x) (_ : ∀ p ∈ x, Score.ok p) (_ : I64 r) :
    Calls Try.prog 34 #[.int .i64 n, .int .i64 m, v, .int .i64 r] w fun e w' => e = .returned (.tuple #[.int .i64 (rankV n m x r), .bool (askS n m x r)]) ∧ Below w.heap.size w w' := by
  by_cases hg : askS n m x r = true
  · have HV := Lib.hid (show rankV n m x r = rankS x m r (runsS x) by unfold rankV; rw [if_pos hg])
    have hgood : goodS n m x = true := (ask_iff.1 hg).1
    have H20 := Lib.hid (fun q => show (ownS x q).length ≤ 20 by have := own_len hgood q; omega)
    have hn40 := good_len hgood
    have hn : x.length ≤ 1048577 := by omega
    have hm := good_best hgood
    have hm0 := hm.1
    have hm1 := hm.2
    have HS := Lib.hid (small_good hgood)
    rw [HV.out, hg]
    have HG := Lib.hid hg
    have HSL := Lib.hid h
    have HL := Lib.hid (runsS_len x)
    clear hg hm hgood h
    go_enter Try.func34, Try.ntmps34
    go_wp2_with fail
    refine (hasScore_any n m x r _ _ HSL.out).mono ?_
    rintro e w1 ⟨rfl, hb1⟩
    rw [HG.out]
    go_wp2_with fail
    refine (scoreRunners_any x _ _ (HSL.out.below (Flat.keeps _) hb1) hn).mono ?_
    rintro e w2 ⟨o, rfl, row, hb2⟩
    have hB2 := step_ hb1 (Nat.le_refl _) hb2
    obtain ⟨l, hl⟩ : ∃ l, l = runsS x := ⟨_, rfl⟩
    rw [← hl] at row HL
    have HLE := Lib.hid hl
    have hl40 : l.length ≤ 40 := by have := HL.out; omega
    obtain ⟨A, c, rfl, hc, hcm⟩ := row.parts
    simp only [List.length_map] at hc row ⊢
    clear hb1 hb2 hl
    go_wp2_with fail
    go_loopw [10, 22] (fun t i wr => ∃ k : Nat, k ≤ l.length ∧ i = .int .i64 k ∧ t = .int .i64 (rankS x m r (l.take k)) ∧ Below w2.heap.size w2 wr)
      (fun _ i _ => l.length - (intOf i).toNat)
    case atStart => exact ⟨0, Nat.zero_le _, rfl, by simp [rankS], Below.refl _ _⟩
    case round =>
      obtain ⟨k, hkl, rfl, rfl, hb⟩ := hrel
      by_cases hlt : k < l.length
      · obtain ⟨g, cap, he, hbg, hg, hcap⟩ := row.form (by simp; omega)
        simp only [Value.slice.injEq, List.length_map] at he
        obtain ⟨rfl, _, rfl⟩ := he
        have hr := row_int (row.below hb) hlt
        have hsm := rankS_small x m r (l.take k)
        have hs1 := hsm.1
        have hs2 : rankS x m r (l.take k) ≤ 41 := by have := hsm.2; simp at this; omega
        have HM := Lib.hid (@rankS_more x m r l k hlt)
        have HE := Lib.hid (@rankS_same x m r l k hlt)
        obtain ⟨cur, hcur⟩ : ∃ cur, cur = rankS x m r (l.take k) := ⟨_, rfl⟩
        rw [← hcur] at HM HE hs1 hs2 ⊢
        obtain ⟨q, hq⟩ : ∃ q, q = l[k] := ⟨_, rfl⟩
        rw [← hq] at hr HM HE
        have HB := Lib.hid hb
        have hb0 := step_ hB2 (Nat.le_refl _) hb
        clear hsm hcur hq
        go_wp2_with fail
        refine (compareStanding_any x m q r _ _ (HSL.out.below (Flat.keeps _) hb0) hn (H20.out q) (H20.out r) (by omega) (by omega) HS.out).mono ?_
        rintro e w3 ⟨rfl, hb3⟩
        obtain ⟨t, ht⟩ : ∃ t, t = cmpStand x m q r := ⟨_, rfl⟩
        rw [← ht] at HM HE ⊢
        clear ht
        go_wp2
        all_goals
          go_roundw
          case rel => exact ⟨k + 1, by omega, by go_num, by first | (rw [HM.out (by omega)] <;> go_num) | (rw [HE.out (by omega)]), step_ HB.out (Nat.le_refl _) hb3⟩
          case measure => simp [intOf]; omega
      · obtain rfl : k = l.length := by omega
        rw [List.take_length]
        go_wp2
        go_ret2
        exact ⟨by (rw [HLE.out] <;> rfl), step_ hB2 (Nat.le_refl _) hb⟩
  · have hg' : askS n m x r = false := by simpa using hg
    have HV := Lib.hid (show rankV n m x r = 0 by unfold rankV; rw [if_neg hg])
    rw [HV.out, hg']
    have HG := Lib.hid hg'
    clear hg hg'
    go_enter Try.func34, Try.ntmps34
    go_wp2_with fail
    refine (hasScore_any n m x r _ _ h).mono ?_
    rintro e w1 ⟨rfl, hb1⟩
    rw [HG.out]
    go_wp2
    go_ret2
    exact ⟨rfl, hb1⟩

set_option maxHeartbeats 4000000 in
theorem spec_SeriesRank (n m : Int) (x : List Score) (v : Value) (r : Int) (w : World) (_ : I64 n) (_ : I64 m) (h : Sl (Flat Score.lst) 3 w v x) (_ : ∀ p ∈ x, Score.ok p) (_ : I64 r) :
    Calls Try.prog 33 #[.int .i64 n, .int .i64 m, v, .int .i64 r] w fun e w' => e = .returned (.tuple #[.int .i64 (rankV n m x r), .bool (askS n m x r)]) ∧ Below w.heap.size w w' := by
  by_cases hg : askS n m x r = true
  · have HV := Lib.hid (show rankV n m x r = rankS x m r (runsS x) by unfold rankV; rw [if_pos hg])
    have hgood : goodS n m x = true := (ask_iff.1 hg).1
    have H20 := Lib.hid (fun q => show (ownS x q).length ≤ 20 by have := own_len hgood q; omega)
    have hn40 := good_len hgood
    have hn : x.length ≤ 1048577 := by omega
    have hm := good_best hgood
    have hm0 := hm.1
    have hm1 := hm.2
    have HS := Lib.hid (small_good hgood)
    rw [HV.out, hg]
    have HG := Lib.hid hg
    have HSL := Lib.hid h
    have HL := Lib.hid (runsS_len x)
    clear hg hm hgood h
    go_enter Try.func33, Try.ntmps33
    go_wp2_with fail
    refine (l20Asked_any n m x r _ _ HSL.out).mono ?_
    rintro e w1 ⟨rfl, hb1⟩
    rw [HG.out]
    go_wp2_with fail
    refine (l20Runners_any x _ _ (HSL.out.below (Flat.keeps _) hb1) hn).mono ?_
    rintro e w2 ⟨o, rfl, row, hb2⟩
    have hB2 := step_ hb1 (Nat.le_refl _) hb2
    obtain ⟨l, hl⟩ : ∃ l, l = runsS x := ⟨_, rfl⟩
    rw [← hl] at row HL
    have HLE := Lib.hid hl
    have hl40 : l.length ≤ 40 := by have := HL.out; omega
    obtain ⟨A, c, rfl, hc, hcm⟩ := row.parts
    simp only [List.length_map] at hc row ⊢
    clear hb1 hb2 hl
    go_wp2_with fail
    go_loopw [10, 12] (fun t i wr => ∃ k : Nat, k ≤ l.length ∧ i = .int .i64 k ∧ t = .int .i64 (rankS x m r (l.take k)) ∧ Below w2.heap.size w2 wr)
      (fun _ i _ => l.length - (intOf i).toNat)
    case atStart => exact ⟨0, Nat.zero_le _, rfl, by simp [rankS], Below.refl _ _⟩
    case round =>
      obtain ⟨k, hkl, rfl, rfl, hb⟩ := hrel
      by_cases hlt : k < l.length
      · obtain ⟨g, cap, he, hbg, hg, hcap⟩ := row.form (by simp; omega)
        simp only [Value.slice.injEq, List.length_map] at he
        obtain ⟨rfl, _, rfl⟩ := he
        have hr := row_int (row.below hb) hlt
        have hsm := rankS_small x m r (l.take k)
        have hs1 := hsm.1
        have hs2 : rankS x m r (l.take k) ≤ 41 := by have := hsm.2; simp at this; omega
        have HM := Lib.hid (@rankS_more x m r l k hlt)
        have HE := Lib.hid (@rankS_same x m r l k hlt)
        obtain ⟨cur, hcur⟩ : ∃ cur, cur = rankS x m r (l.take k) := ⟨_, rfl⟩
        rw [← hcur] at HM HE hs1 hs2 ⊢
        obtain ⟨q, hq⟩ : ∃ q, q = l[k] := ⟨_, rfl⟩
        rw [← hq] at hr HM HE
        have HB := Lib.hid hb
        have hb0 := step_ hB2 (Nat.le_refl _) hb
        clear hsm hcur hq
        go_wp2_with fail
        refine (l20Before_any x m q r _ _ (HSL.out.below (Flat.keeps _) hb0) hn (H20.out q) (H20.out r) (by omega) (by omega) HS.out).mono ?_
        rintro e w3 ⟨rfl, hb3⟩
        obtain ⟨t, ht⟩ : ∃ t, t = cmpStand x m q r := ⟨_, rfl⟩
        rw [← ht] at HM HE ⊢
        clear ht
        go_wp2
        all_goals
          go_roundw
          case rel => exact ⟨k + 1, by omega, by go_num, by first | (rw [HM.out (by omega)] <;> go_num) | (rw [HE.out (by omega)]), step_ HB.out (Nat.le_refl _) hb3⟩
          case measure => simp [intOf]; omega
      · obtain rfl : k = l.length := by omega
        rw [List.take_length]
        go_wp2
        go_ret2
        exact ⟨by (rw [HLE.out] <;> rfl), step_ hB2 (Nat.le_refl _) hb⟩
  · have hg' : askS n m x r = false := by simpa using hg
    have HV := Lib.hid (show rankV n m x r = 0 by unfold rankV; rw [if_neg hg])
    rw [HV.out, hg']
    have HG := Lib.hid hg'
    clear hg hg'
    go_enter Try.func33, Try.ntmps33
    go_wp2_with fail
    refine (l20Asked_any n m x r _ _ h).mono ?_
    rintro e w1 ⟨rfl, hb1⟩
    rw [HG.out]
    go_wp2
    go_ret2
    exact ⟨rfl, hb1⟩
end Go.Proofs.Ythhlfkeikcmnlaa
