/- The walk of MostPossible, of the reference. No condition. -/
import Derived.Test.YthhlfkeikcmnlaaZMost
namespace Go.Proofs.Ythhlfkeikcmnlaa
open Go Go.RowKit

set_option maxRecDepth 100000 in
set_option maxHeartbeats 4000000 in
theorem spec_MostPossible (x0 x1 : Int) (x2 : List Score) (v2 : Value) (x3 x4 : Int) (w : World) (_ : I64 x0) (_ : I64 x1) (h : Sl (Flat Score.lst) 3 w v2 x2) (_ : ∀ x ∈ x2, Score.ok x) (_ : I64 x3) (_ : I64 x4) :
    Calls Try.prog 26 #[.int .i64 x0, .int .i64 x1, v2, .int .i64 x3, .int .i64 x4] w fun e w' => e = .returned (.tuple #[.int .i64 (mostV x0 x1 x2 x3 x4), .bool (mostB x0 x1 x2 x3 x4)]) ∧ Below w.heap.size w w' := by
  by_cases ha : askS x0 x1 x2 x3 = true
  · by_cases hi : inB x4 0 x0 = true
    · have hg : goodS x0 x1 x2 = true := (ask_iff.1 ha).1
      have HB := Lib.hid (show mostB x0 x1 x2 x3 x4 = true by simp [mostB, ha, hi])
      have HV := Lib.hid (show mostV x0 x1 x2 x3 x4 = totS x1 (x2 ++ extN x2 x3 x4 (x0 - x4).toNat) x3 by unfold mostV; rw [if_pos HB.out])
      have hn40 := good_len hg
      have hr := inB_iff.1 (goodS_iff.1 hg).1
      have hh := inB_iff.1 hi
      obtain ⟨hm0, hm8⟩ := good_best hg
      obtain ⟨hh0, hh8⟩ := hh
      obtain ⟨hr0, hr8⟩ := hr
      obtain ⟨N, hN⟩ : ∃ N : Nat, N = (x0 - x4).toNat := ⟨_, rfl⟩
      rw [← hN] at HV
      have hN8 : N ≤ 8 := by omega
      have HOL := Lib.hid (own_ext_len' hg x3 x4 N hN8)
      have HSM := Lib.hid (small_ext (small_good hg) x3 x4 N (fun _ h => h))
      have HA := Lib.hid ha
      have HI := Lib.hid hi
      have HSL := Lib.hid h
      obtain ⟨A, c, rfl, hc, hm, hk⟩ := h.open_
      obtain rfl : x0 = x4 + N := by omega
      have hn1 := Lib.hid (show ([] : List (List Value)).length + x2.length ≤ 2147483648 by simp; omega)
      clear ha hi hg hN
      go_enter Try.func26, Try.ntmps26
      go_wp2_with (first
        | (go_at_call 59; refine (l20Asked_any _ x1 x2 x3 _ _ HSL.out).mono ?_; rintro e w1 ⟨rfl, hb1⟩; rw [HA.out])
        | (go_at_call 63; refine (l1In_any _ _ _ _).mono ?_; rintro e w2 ⟨rfl, rfl⟩; rw [HI.out])
        | (at_builtin; refine tyScore.append rfl _ _ rfl w.heap.size (.slice (some ⟨w1.heap.size, 0, none⟩) 0 0) [] rfl (Own.nil (sz := 3) hb1 _ rfl).1 _ _ _ (x2.map Score.lst) rfl (Old.now (Sl.old HSL.out Score.lst_len Score.one rfl) (below_alloc hb1 _)) hn1.out (below_alloc hb1 _).size ?_; intro o2 w2 hrow2 hg2 _))
      have own : Own w 33 3 w2 o2 (x2.map Score.lst) := ⟨by simpa using hrow2, (below_alloc hb1 _).grown hg2 (below_alloc hb1 _).size (fun q hq => by simp [Value.ownBlock] at hq; subst hq; exact hb1.size)⟩
      clear hrow2 hg2 hb1
      go_loopg [12, 13] N (fun g s q wr => ∃ k : Nat, k ≤ N ∧ N - k ≤ g ∧ q = .int .i64 (x4 + 1 + k) ∧ Own w 33 3 wr s ((x2 ++ extN x2 x3 x4 k).map Score.lst))
      case atStart => exact ⟨0, Nat.zero_le _, Nat.le_refl _, by simp, by simpa [extN] using own⟩
      case round =>
        clear own
        obtain ⟨k, hkN, hg, rfl, own⟩ := hrel
        by_cases hlt : k < N
        · have HS := Lib.hid (show extN x2 x3 x4 (k + 1) = extN x2 x3 x4 k ++ if hasR x2 x3 (x4 + 1 + k) = true then [] else [⟨x3, x4 + 1 + k, 1000⟩] from rfl)
          have HHR := Lib.hid (show hasR x2 x3 (x4 + 1 + k) = x2.any (fun s => s.runner == x3 && s.race == x4 + 1 + k) from rfl)
          obtain ⟨t, ht⟩ : ∃ t, t = x2 ++ extN x2 x3 x4 k := ⟨_, rfl⟩
          have hl : t.length ≤ 48 := by rw [ht, List.length_append]; have := extN_len x2 x3 x4 k; omega
          rw [← ht] at own
          have HT := Lib.hid ht
          have HOB := Lib.hid own
          obtain ⟨race, hrace⟩ : ∃ race : Int, race = x4 + 1 + k := ⟨_, rfl⟩
          have hr1 : 1 ≤ race := by omega
          have hr2 : race ≤ x4 + N := by omega
          rw [← hrace] at HS HHR ⊢
          have HLL := Lib.hid (show (t.map Score.lst).length + 1 ≤ 2147483648 by simp; omega)
          have HRC := Lib.hid hrace
          clear ht own hrace
          go_wp2_with fail
          go_loopw [14, 15] (fun b i wi => ∃ j : Nat, j ≤ x2.length ∧ i = .int .i64 j ∧ b = .bool ((x2.take j).any (fun s => s.runner == x3 && s.race == race)) ∧ Below wr.heap.size wr wi)
            (fun _ i _ => x2.length - (intOf i).toNat)
          case atStart => exact ⟨0, Nat.zero_le _, rfl, rfl, Below.refl _ _⟩
          case round =>
            obtain ⟨j, hjl, rfl, rfl, hb⟩ := hrel
            by_cases hjt : j < x2.length
            · have hT : (x2.take (j + 1)).any (fun s => s.runner == x3 && s.race == race) = ((x2.take j).any (fun s => s.runner == x3 && s.race == race) || (x2[j].runner == x3 && x2[j].race == race)) := by
                rw [List.take_succ_eq_append_getElem hjt, List.any_append]; simp
              obtain ⟨g, off, rfl, hat⟩ := flat_at hk (by omega)
              have hyr := rangeAt_below (rangeAt_below (hat j hjt) HOB.out.2) hb
              obtain ⟨y, hy⟩ : ∃ y, y = x2[j] := ⟨_, rfl⟩
              rw [← hy] at hyr hT
              have hyc := Score.cells hyr
              obtain ⟨q, hq⟩ : ∃ q, q = (x2.take j).any (fun s => s.runner == x3 && s.race == race) := ⟨_, rfl⟩
              rw [← hq] at hT ⊢
              have HT2 := Lib.hid hT
              have HB0 := Lib.hid hb
              clear hT hq hyr hy hat hk
              cases q with
              | true =>
                go_wp2
                go_roundw
                case rel => exact ⟨j + 1, by omega, by go_num, by rw [HT2.out]; rfl, HB0.out⟩
                case measure => simp [intOf]; omega
              | false =>
                go_wp2
                all_goals
                  go_roundw
                  case rel => exact ⟨j + 1, by omega, by go_num, by rw [HT2.out]; first | rfl | (congr 1; simp; grind) | (congr 1; grind), HB0.out⟩
                  case measure => simp [intOf]; omega
            · obtain rfl : j = x2.length := by omega
              rw [List.take_length]
              obtain ⟨q, hq⟩ : ∃ q, q = x2.any (fun s => s.runner == x3 && s.race == race) := ⟨_, rfl⟩
              rw [← hq] at HHR ⊢
              have HO5 := Lib.hid (HOB.out.below hb)
              clear hq
              cases q with
              | true =>
                go_wp2
                go_roundg (N - (k + 1))
                case measure => omega
                case rel =>
                  exact ⟨k + 1, by omega, Nat.le_refl _, by rw [HRC.out]; go_num, by rw [HS.out, HHR.out, ← List.append_assoc, ← HT.out]; simpa using HO5.out⟩
              | false =>
                go_wp2_with (at_builtin; refine tyScore.append rfl _ _ rfl w.heap.size _ _ rfl (HO5.out.alloc _).1 _ 1 1 [[.int .i64 x3, .int .i64 race, .int .i64 1000]] rfl (Src.lit _ _ _ _ (by simp) rfl (by simp [Value.oneCell'])) HLL.out (by simp; exact Nat.le_succ_of_le HO5.out.2.size) ?_; intro o6 w6 hrow6 hg6 _)
                have HB6 := Lib.hid ((HO5.out.alloc (.cells #[.int .i64 x3, .int .i64 race, .int .i64 1000] 33)).2.grown hg6 (HO5.out.alloc (.cells #[.int .i64 x3, .int .i64 race, .int .i64 1000] 33)).2.size (fun q hq => (HO5.out.1.lt q hq).1))
                go_roundg (N - (k + 1))
                case measure => omega
                case rel =>
                  have own6 : Own w 33 3 w6 o6 ((x2 ++ extN x2 x3 x4 (k + 1)).map Score.lst) := by
                    rw [HS.out, HHR.out, ← List.append_assoc, ← HT.out, List.map_append]
                    exact ⟨hrow6, HB6.out⟩
                  exact ⟨k + 1, by omega, Nat.le_refl _, by rw [HRC.out]; go_num, own6⟩
        · obtain rfl : k = N := by omega
          go_wp2_with (go_at_call 60; refine (l20Total_any (x2 ++ extN x2 x3 x4 k) x1 x3 _ _ (Sl.of_flat own.1) (by rw [List.length_append]; have := extN_len x2 x3 x4 k; omega) HOL.out (by omega) (by omega) HSM.out).mono ?_; rintro e w6 ⟨rfl, hb6⟩)
          go_ret2
          exact ⟨by (rw [HV.out, HB.out] <;> rfl), step_ own.2 (Nat.le_refl _) hb6⟩
    · have hi' : inB x4 0 x0 = false := by simpa using hi
      have HB := Lib.hid (show mostB x0 x1 x2 x3 x4 = false by simp [mostB, hi'])
      have HV := Lib.hid (show mostV x0 x1 x2 x3 x4 = 0 by unfold mostV; rw [HB.out]; rfl)
      have HA := Lib.hid ha
      have HI := Lib.hid hi'
      clear ha hi hi'
      go_enter Try.func26, Try.ntmps26
      go_wp2_with (first
        | (go_at_call 59; refine (l20Asked_any x0 x1 x2 x3 _ _ h).mono ?_; rintro e w1 ⟨rfl, hb1⟩; rw [HA.out])
        | (go_at_call 63; refine (l1In_any _ _ _ _).mono ?_; rintro e w2 ⟨rfl, rfl⟩; rw [HI.out]))
      go_ret2
      exact ⟨by (rw [HV.out, HB.out] <;> rfl), hb1⟩
  · have ha' : askS x0 x1 x2 x3 = false := by simpa using ha
    have HB := Lib.hid (show mostB x0 x1 x2 x3 x4 = false by simp [mostB, ha'])
    have HV := Lib.hid (show mostV x0 x1 x2 x3 x4 = 0 by unfold mostV; rw [HB.out]; rfl)
    have HA := Lib.hid ha'
    clear ha ha'
    go_enter Try.func26, Try.ntmps26
    go_wp2_with (go_at_call 59; refine (l20Asked_any x0 x1 x2 x3 _ _ h).mono ?_; rintro e w1 ⟨rfl, hb1⟩; rw [HA.out])
    go_ret2
    exact ⟨by (rw [HV.out, HB.out] <;> rfl), hb1⟩
end Go.Proofs.Ythhlfkeikcmnlaa
