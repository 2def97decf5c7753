/- The walk of RacesWon, of the reference. No condition. -/
import Derived.Test.YthhlfkeikcmnlaaZWon
namespace Go.Proofs.Ythhlfkeikcmnlaa
open Go Go.RowKit

set_option maxRecDepth 100000 in
set_option maxHeartbeats 4000000 in
theorem spec_RacesWon (x0 x1 : Int) (x2 : List Score) (v2 : Value) (x3 : Int) (w : World) (_ : I64 x0) (_ : I64 x1) (h : Sl (Flat Score.lst) 3 w v2 x2) (_ : ∀ x ∈ x2, Score.ok x) (_ : I64 x3) :
    Calls Try.prog 28 #[.int .i64 x0, .int .i64 x1, v2, .int .i64 x3] w fun e w' => ∃ r0, e = .returned (.tuple #[r0, .bool (askS x0 x1 x2 x3)]) ∧ Row w.heap.size 3 1 w' r0 ((wonS x0 x1 x2 x3).map ints) ∧ Below w.heap.size w w' := by
  have ownN : Own w 3 1 (w.alloc (.cells #[] 3)) (.slice (some ⟨w.heap.size, 0, none⟩) 0 0) [] := Own.nil (Below.refl _ _) _ rfl
  by_cases ha : askS x0 x1 x2 x3 = true
  · have hn : x2.length ≤ 1048577 := by have := good_len (show goodS x0 x1 x2 = true by simp [askS] at ha; exact ha.1); omega
    have HC := Lib.hid (show wonS x0 x1 x2 x3 = (x2.filter (wins x2 x3)).map Score.race by unfold wonS; rw [if_pos ha])
    have HA := Lib.hid ha
    clear ha
    have HV := Lib.hid h
    obtain ⟨A, c, rfl, hc, hm, hk⟩ := h.open_
    go_enter Try.func28, Try.ntmps28
    go_wp2_with fail
    refine (l20Asked_any x0 x1 x2 x3 _ _ (HV.out.below (Flat.keeps _) ownN.b)).mono ?_
    rintro e w1 ⟨rfl, hb1⟩
    rw [HA.out]
    have own1 := ownN.below hb1
    clear ownN
    go_wp2_with fail
    go_loopw [10, 11] (fun s i wr => ∃ k : Nat, k ≤ x2.length ∧ i = .int .i64 k ∧ Own w 3 1 wr s ((((x2.take k).filter (wins x2 x3)).map Score.race).map ints))
      (fun _ i _ => x2.length - (intOf i).toNat)
    case atStart => exact ⟨0, Nat.zero_le _, rfl, own1⟩
    case round =>
      obtain ⟨k, hkl, rfl, own⟩ := hrel
      by_cases hlt : k < x2.length
      · obtain ⟨g, off, rfl, hat⟩ := flat_at hk (by omega)
        have HAT := Lib.hid (show ∀ j (hj : j < x2.length), wr.rangeAt g (off + j * 3) x2[j].lst from fun j hj => rangeAt_below (hat j hj) own.2)
        have hr := HAT.out k hlt
        have HS := Lib.hid (filter_take_succ (wins x2 x3) x2 k hlt)
        have HLL := Lib.hid (show ((((x2.take k).filter (wins x2 x3)).map Score.race).map ints).length + 1 ≤ 2147483648 by
          have := List.length_filter_le (wins x2 x3) (x2.take k)
          simp at this ⊢
          omega)
        obtain ⟨pl, hpl⟩ : ∃ pl, pl = (((x2.take k).filter (wins x2 x3)).map Score.race).map ints := ⟨_, rfl⟩
        rw [← hpl] at own HS HLL
        obtain ⟨x, hx⟩ : ∃ x, x = x2[k] := ⟨_, rfl⟩
        rw [← hx] at hr HS
        have hcn := Score.cells hr
        have HR := Lib.hid hr
        have HOB := Lib.hid own
        clear hk hat hx hpl own hr own1
        by_cases hrr : x.runner = x3
        · have hr1 : (x.runner != x3) = false := by simpa using hrr
          have HW := Lib.hid (show wins x2 x3 x = !x2.any (beatsBy x) by simp [wins, hrr])
          clear hrr
          go_wp2_with fail
          clear hcn
          go_loopw [12, 13] (fun b i wi => ∃ j : Nat, j ≤ x2.length ∧ i = .int .i64 j ∧ b = .bool (!(x2.take j).any (beatsBy x)) ∧ Below wr.heap.size wr wi)
            (fun _ i _ => x2.length - (intOf i).toNat)
          case atStart => exact ⟨0, Nat.zero_le _, rfl, rfl, Below.refl _ _⟩
          case round =>
            obtain ⟨j, hjl, rfl, rfl, hb⟩ := hrel
            by_cases hjt : j < x2.length
            · have hT : (!(x2.take (j + 1)).any (beatsBy x)) = ((!(x2.take j).any (beatsBy x)) && !beatsBy x x2[j]) := by
                rw [List.take_succ_eq_append_getElem hjt, List.any_append]; simp
              have hyr := rangeAt_below (HAT.out j hjt) hb
              obtain ⟨y, hy⟩ : ∃ y, y = x2[j] := ⟨_, rfl⟩
              rw [← hy] at hyr hT
              have hyc := Score.cellsOld hyr
              have hxc := Score.cellsOld (rangeAt_below HR.out hb)
              obtain ⟨q, hq⟩ : ∃ q, q = !(x2.take j).any (beatsBy x) := ⟨_, rfl⟩
              rw [← hq] at hT ⊢
              have HT := Lib.hid hT
              have HB0 := Lib.hid hb
              clear hT hq hyr hy
              cases q with
              | false =>
                go_wp2
                refine region_after (by kernel_rfl) (by kernel_rfl) ?_
                repeat (any_goals (first | go_big_quiet_step (fail)  | quiet_step (fail) | (refine wpQuiet_step (fun K hK => ?_); go_simp; split <;> (refine hK _ ?_; clear hK K))))
                all_goals (refine wpQuiet_nil ?_; intro s)
                all_goals go_wp2
                all_goals
                  go_roundw
                  case rel => exact ⟨j + 1, by omega, by go_num, by rw [HT.out]; rfl, step_ HB0.out (Nat.le_refl _) s.hb⟩
                  case measure => simp [intOf]; omega
              | true =>
                go_wp2
                refine region_after (by kernel_rfl) (by kernel_rfl) ?_
                repeat (any_goals (first | go_big_quiet_step (fail)  | quiet_step (fail) | (refine wpQuiet_step (fun K hK => ?_); go_simp; split <;> (refine hK _ ?_; clear hK K))))
                all_goals (refine wpQuiet_nil ?_; intro s)
                all_goals go_wp2
                all_goals
                  go_roundw
                  case rel => exact ⟨j + 1, by omega, by go_num, by rw [HT.out]; unfold beatsBy; first | rfl | (congr 1; simp; grind) | (congr 1; grind), step_ HB0.out (Nat.le_refl _) s.hb⟩
                  case measure => simp [intOf]; omega
            · obtain rfl : j = x2.length := by omega
              rw [List.take_length]
              obtain ⟨q, hq⟩ : ∃ q, q = !x2.any (beatsBy x) := ⟨_, rfl⟩
              rw [← hq] at HW ⊢
              have HO3 := Lib.hid (HOB.out.below hb)
              have hc3 := Score.cells (rangeAt_below HR.out hb)
              clear hq
              cases q with
              | false =>
                go_wp2
                go_roundw
                case rel => exact ⟨k + 1, by omega, by go_num, by rw [HS.out, HW.out]; simpa using HO3.out⟩
                case measure => simp [intOf]; omega
              | true =>
                go_wp2_with (at_builtin; refine tyInt.append rfl _ _ rfl w.heap.size _ _ rfl (HO3.out.alloc _).1 _ 1 1 [ints x.race] rfl (Src.lit _ _ (ints x.race) _ (by simp) rfl (ints_one _)) HLL.out (by simp; exact Nat.le_succ_of_le HO3.out.2.size) ?_; intro o4 w4 hrow4 hg4 _)
                have HB4 := Lib.hid ((HO3.out.alloc (.cells #[.int .i64 x.race] 3)).2.grown hg4 (HO3.out.alloc (.cells #[.int .i64 x.race] 3)).2.size (fun q hq => (HO3.out.1.lt q hq).1))
                go_roundw
                case rel => exact ⟨k + 1, by omega, by go_num, by rw [HS.out, HW.out]; exact ⟨hrow4, HB4.out⟩⟩
                case measure => simp [intOf]; omega
        · have hr1 : (x.runner != x3) = true := by simpa using hrr
          have HW := Lib.hid (show wins x2 x3 x = false by simp [wins, hrr])
          clear hrr
          go_wp2
          go_roundw
          case rel => exact ⟨k + 1, by omega, by go_num, by rw [HS.out, HW.out]; simpa using HOB.out⟩
          case measure => simp [intOf]; omega
      · go_wp2
        go_ret2
        obtain rfl : k = x2.length := by omega
        rw [List.take_length] at own
        exact ⟨_, by (rw [HA.out] <;> rfl), by rw [HC.out]; exact own.1, own.2⟩
  · have ha' : askS x0 x1 x2 x3 = false := by simpa using ha
    have HA := Lib.hid ha'
    have HC := Lib.hid (show wonS x0 x1 x2 x3 = [] by unfold wonS; rw [if_neg ha])
    clear ha ha'
    go_enter Try.func28, Try.ntmps28
    go_wp2_with fail
    refine (l20Asked_any x0 x1 x2 x3 _ _ (h.below (Flat.keeps _) ownN.b)).mono ?_
    rintro e w1 ⟨rfl, hb1⟩
    rw [HA.out]
    have own1 := ownN.below hb1
    go_wp2
    go_ret2
    exact ⟨_, by (rw [HA.out] <;> rfl), by rw [HC.out]; exact own1.1, own1.b⟩
end Go.Proofs.Ythhlfkeikcmnlaa
