/- The walks of the runners of scores. No condition beyond a length that fits. -/
import Derived.Test.YthhlfkeikcmnlaaZMostQStdQ
import Derived.Test.YthhlfkeikcmnlaaZCompact
import Derived.Test.YthhlfkeikcmnlaaZCount
namespace Go.Proofs.Ythhlfkeikcmnlaa
open Go Go.RowKit

set_option maxHeartbeats 1000000 in
theorem scoreRunners_any (xs : List Score) (v : Value) (w : World) (h : Sl (Flat Score.lst) 3 w v xs) (hn : xs.length ≤ 1048577) :
    Calls Try.prog 70 #[v] w fun e w' => ∃ r, e = .returned r ∧ Row w.heap.size 3 1 w' r ((runsS xs).map ints) ∧ Below w.heap.size w w' := by
  obtain ⟨A, c, rfl, hc, hm, hk⟩ := h.open_
  have ownN : Own w 3 1 (w.alloc (.cells #[] 3)) (.slice (some ⟨w.heap.size, 0, none⟩) 0 0) [] := Own.nil (Below.refl _ _) _ rfl
  clear h
  go_enter Try.func70, Try.ntmps70
  go_wp2
  go_loopw [3, 9] (fun s i wr => ∃ k : Nat, k ≤ xs.length ∧ i = .int .i64 k ∧ Own w 3 1 wr s (((xs.take k).map Score.runner).map ints))
    (fun _ i _ => xs.length - (intOf i).toNat)
  case atStart => exact ⟨0, Nat.zero_le _, rfl, ownN⟩
  case round =>
    obtain ⟨k, hkl, rfl, own⟩ := hrel
    by_cases hlt : k < xs.length
    · obtain ⟨g, off, rfl, hat⟩ := flat_at hk (by omega)
      have hr := rangeAt_below (hat k hlt) own.2
      have HS := Lib.hid (show ((xs.take (k + 1)).map Score.runner).map ints = ((xs.take k).map Score.runner).map ints ++ [ints xs[k].runner] by rw [List.take_succ_eq_append_getElem hlt, List.map_append, List.map_append]; rfl)
      have HLL := Lib.hid (show (((xs.take k).map Score.runner).map ints).length + 1 ≤ 2147483648 by simp; omega)
      obtain ⟨pl, hpl⟩ : ∃ pl, pl = ((xs.take k).map Score.runner).map ints := ⟨_, rfl⟩
      rw [← hpl] at own HS HLL
      obtain ⟨x, hx⟩ : ∃ x, x = xs[k] := ⟨_, rfl⟩
      rw [← hx] at hr HS
      have hcn := Score.cells (Score.rangeNew wr x 33)
      simp only [Nat.zero_add] at hcn
      have HO2 := Lib.hid (own.alloc (.cells #[.int .i64 x.runner, .int .i64 x.race, .int .i64 x.points] 33))
      clear hk hat hx hpl own
      go_wp2_with (first
        | ((with_reducible refine at_load_ 33 ?_); refine Score.loadImpl rfl _ rfl g (off + k * 3) rfl x hr ?_)
        | (at_builtin; refine tyInt.append rfl _ _ rfl w.heap.size _ _ rfl (HO2.out.alloc _).1 _ 1 1 [ints x.runner] rfl (Src.lit _ _ (ints x.runner) _ (by simp) rfl (ints_one _)) HLL.out (by simp; have := HO2.out.2.size; simp at this; omega) ?_; intro o4 w4 hrow4 hg4 _))
      have HB4 := Lib.hid ((HO2.out.alloc (.cells #[.int .i64 x.runner] 3)).2.grown hg4 (HO2.out.alloc (.cells #[.int .i64 x.runner] 3)).2.size (fun q hq => (HO2.out.1.lt q hq).1))
      go_roundw
      case rel => exact ⟨k + 1, by omega, by go_num, by rw [HS.out]; exact ⟨hrow4, HB4.out⟩⟩
      case measure => simp [intOf]; omega
    · obtain rfl : k = xs.length := by omega
      rw [List.take_length] at own
      go_wp2_with (go_at_call 95; refine (compact_int w.heap.size (xs.map Score.runner) _ _ own.1 (by simpa using hn)).mono ?_; rintro e w5 ⟨r, rfl, row5, hg5, _⟩)
      go_ret
      exact ⟨_, rfl, row5, own.2.grown hg5 own.2.size (fun q hq => (own.1.lt q hq).1)⟩

theorem runs_same {xs : List Score} {k : Nat} (h : k < xs.length) (h0 : 0 < k) (he : (xs[k - 1]'(by omega)).runner = xs[k].runner) : runsS (xs.take (k + 1)) = runsS (xs.take k) := by
  rw [runsS_take xs k h, if_pos ⟨h0, by rw [List.getElem?_eq_getElem (by omega)]; simp [he]⟩]
theorem runs_more {xs : List Score} {k : Nat} (h : k < xs.length) (he : 0 < k → (xs[k - 1]'(by omega)).runner ≠ xs[k].runner) : (runsS (xs.take (k + 1))).map ints = (runsS (xs.take k)).map ints ++ [ints xs[k].runner] := by
  rw [runsS_take xs k h, if_neg (fun hh => he hh.1 (by have := hh.2; rw [List.getElem?_eq_getElem (by omega)] at this; simpa using this))]
  simp
set_option maxHeartbeats 2000000 in
theorem l20Runners_any (xs : List Score) (v : Value) (w : World) (h : Sl (Flat Score.lst) 3 w v xs) (hn : xs.length ≤ 1048577) :
    Calls Try.prog 68 #[v] w fun e w' => ∃ r, e = .returned r ∧ Row w.heap.size 3 1 w' r ((runsS xs).map ints) ∧ Below w.heap.size w w' := by
  obtain ⟨A, c, rfl, hc, hm, hk⟩ := h.open_
  have ownN : Own w 3 1 (w.alloc (.cells #[] 3)) (.slice (some ⟨w.heap.size, 0, none⟩) 0 0) [] := Own.nil (Below.refl _ _) _ rfl
  clear h
  go_enter Try.func68, Try.ntmps68
  go_wp2
  go_loopw [3, 4] (fun s i wr => ∃ k : Nat, k ≤ xs.length ∧ i = .int .i64 k ∧ Own w 3 1 wr s ((runsS (xs.take k)).map ints))
    (fun _ i _ => xs.length - (intOf i).toNat)
  case atStart => exact ⟨0, Nat.zero_le _, rfl, ownN⟩
  case round =>
    obtain ⟨k, hkl, rfl, own⟩ := hrel
    by_cases hlt : k < xs.length
    · obtain ⟨g, off, rfl, hat⟩ := flat_at hk (by omega)
      have hxc := Score.cellsOld (rangeAt_below (hat k hlt) own.2)
      have HM := Lib.hid (@runs_more xs k hlt)
      have HLL := Lib.hid (show ((runsS (xs.take k)).map ints).length + 1 ≤ 2147483648 by have := runsS_len (xs.take k); simp at this ⊢; omega)
      have HOB := Lib.hid own
      by_cases h0 : 0 < k
      · have HE := Lib.hid (@runs_same xs k hlt h0)
        have hyc := Score.cellsOld (rangeAt_below (hat (k - 1) (by omega)) own.2)
        obtain ⟨x, hx⟩ : ∃ x, x = xs[k] := ⟨_, rfl⟩
        obtain ⟨y, hy⟩ : ∃ y, y = xs[k - 1] := ⟨_, rfl⟩
        rw [← hx] at hxc HM HE
        rw [← hy] at hyc HM HE
        obtain ⟨pl, hpl⟩ : ∃ pl, pl = runsS (xs.take k) := ⟨_, rfl⟩
        rw [← hpl] at HOB HM HE HLL
        clear hk hat hx hy hpl own
        obtain ⟨a, b, c'⟩ := x
        obtain ⟨a', b', d'⟩ := y
        simp only at hxc hyc HM HE
        have hk0 : ((k : Int) == 0) = false := by rw [beq_eq_false_iff_ne]; omega
        by_cases hd : a' = a
        · have HN := Lib.hid (HE.out hd)
          subst hd
          go_wp2
          refine region_after (by kernel_rfl) (by kernel_rfl) ?_
          repeat (any_goals (first | go_big_quiet_step (fail)  | quiet_step (fail)))
          refine wpQuiet_nil ?_
          intro s
          go_wp2
          go_roundw
          case rel => exact ⟨k + 1, by omega, by go_num, by rw [HN.out]; exact HOB.out.below s.hb⟩
          case measure => simp [intOf]; omega
        · have HN := Lib.hid (HM.out (fun _ => hd))
          have hd' : (a' != a) = true := by simpa using hd
          clear hd
          go_wp2
          refine region_after (by kernel_rfl) (by kernel_rfl) ?_
          repeat (any_goals (first | go_big_quiet_step (fail)  | quiet_step (fail)))
          refine wpQuiet_nil ?_
          intro s
          have hxs := hxc s
          have HO2 := Lib.hid (HOB.out.below s.hb)
          go_wp2_with (at_builtin; refine tyInt.append rfl _ _ rfl w.heap.size _ _ rfl (HO2.out.alloc _).1 _ 1 1 [ints a] rfl (Src.lit _ _ (ints a) _ (by simp) rfl (ints_one _)) HLL.out (by simp; exact Nat.le_succ_of_le HO2.out.2.size) ?_; intro o4 w4 hrow4 hg4 _)
          have HB4 := Lib.hid ((HO2.out.alloc (.cells #[.int .i64 a] 3)).2.grown hg4 (HO2.out.alloc (.cells #[.int .i64 a] 3)).2.size (fun q hq => (HO2.out.1.lt q hq).1))
          go_roundw
          case rel => exact ⟨k + 1, by omega, by go_num, by rw [HN.out]; exact ⟨hrow4, HB4.out⟩⟩
          case measure => simp [intOf]; omega
      · obtain rfl : k = 0 := by omega
        have HN := Lib.hid (HM.out (fun h => absurd h h0))
        obtain ⟨x, hx⟩ : ∃ x, x = xs[0] := ⟨_, rfl⟩
        rw [← hx] at hxc HN
        obtain ⟨pl, hpl⟩ : ∃ pl, pl = runsS (xs.take 0) := ⟨_, rfl⟩
        rw [← hpl] at HOB HN HLL
        clear hk hat hx hpl own HM
        simp only [Nat.zero_mul, Nat.add_zero] at hxc
        obtain ⟨a, b, c'⟩ := x
        simp only at hxc HN
        go_wp2
        refine region_after (by kernel_rfl) (by kernel_rfl) ?_
        repeat (any_goals (first | go_big_quiet_step (fail)  | quiet_step (fail)))
        refine wpQuiet_nil ?_
        intro s
        have hxs := hxc s
        have HO2 := Lib.hid (HOB.out.below s.hb)
        go_wp2_with (at_builtin; refine tyInt.append rfl _ _ rfl w.heap.size _ _ rfl (HO2.out.alloc _).1 _ 1 1 [ints a] rfl (Src.lit _ _ (ints a) _ (by simp) rfl (ints_one _)) HLL.out (by simp; exact Nat.le_succ_of_le HO2.out.2.size) ?_; intro o4 w4 hrow4 hg4 _)
        have HB4 := Lib.hid ((HO2.out.alloc (.cells #[.int .i64 a] 3)).2.grown hg4 (HO2.out.alloc (.cells #[.int .i64 a] 3)).2.size (fun q hq => (HO2.out.1.lt q hq).1))
        go_roundw
        case rel => exact ⟨0 + 1, by omega, by go_num, by rw [HN.out]; exact ⟨hrow4, HB4.out⟩⟩
        case measure => simp [intOf]; omega
    · obtain rfl : k = xs.length := by omega
      rw [List.take_length] at own
      go_wp2
      go_ret
      exact ⟨_, rfl, own.1, own.2⟩
end Go.Proofs.Ythhlfkeikcmnlaa
