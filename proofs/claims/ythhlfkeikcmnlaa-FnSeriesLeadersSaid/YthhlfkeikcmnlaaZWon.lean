/- The walk of RacesWon, of the program. No condition. -/
import Derived.Test.YthhlfkeikcmnlaaZAsked
import Derived.Test.YthhlfkeikcmnlaaZLibSqz
namespace Go.Proofs.Ythhlfkeikcmnlaa
open Go Go.RowKit

set_option maxHeartbeats 1000000 in
theorem indexFunc_67 (cap0 : Value) (pr : Score → Bool) (ps : List Score) (v : Value) (w : World) (h : Sl (Flat Score.lst) 3 w v ps)
    (hf : ∀ s : After w, ∀ k (hk : k < ps.length), Calls Try.prog 67 #[ps[k].val, cap0] s.w' fun e w' => e = .returned (.bool (pr ps[k])) ∧ Below s.w'.heap.size s.w' w') :
    Calls Try.prog 94 #[v, .func (.func 67) #[] #[cap0]] w fun e w' => e = .returned (.int .i64 (idxA pr ps)) ∧ Below w.heap.size w w' := by
  obtain ⟨A, c, rfl, hc, hm, hk⟩ := h.open_
  have HF := Lib.hid hf
  clear hf
  go_enter Try.func94, Try.ntmps94
  go_wp2
  go_loopw [8] (fun i wr => ∃ k : Nat, k ≤ ps.length ∧ i = .int .i64 k ∧ Hid (∀ j (h : j < ps.length), j < k → pr ps[j] = false) ∧ Below w.heap.size w wr)
    (fun i _ => ps.length - (intOf i).toNat)
  case atStart => exact ⟨0, Nat.zero_le _, rfl, fun j h hj => absurd hj (by omega), Below.refl _ _⟩
  case round =>
    obtain ⟨k, hkl, rfl, HS, hb⟩ := hrel
    by_cases hlt : k < ps.length
    · obtain ⟨b, off, rfl, hat⟩ := flat_at hk (by omega)
      have hr := rangeAt_below (hat k hlt) hb
      clear hat hk h
      go_wp2_with ((with_reducible refine at_load_ 33 ?_); refine Score.loadImpl rfl _ rfl b (off + k * 3) rfl ps[k] hr ?_)
      refine (HF.out ⟨wr, hb⟩ k hlt).mono ?_
      rintro e w2 ⟨rfl, hb2⟩
      have hB := step_ hb (Nat.le_refl _) hb2
      by_cases hp : pr ps[k] = true
      · have HP := Lib.hid hp
        rw [hp]
        clear hp
        go_wp2
        go_ret
        exact ⟨ret_int (idxA_found hlt HP.out HS.out).symm, hB⟩
      · have hp' : pr ps[k] = false := by simpa using hp
        have HP := Lib.hid hp'
        rw [hp']
        clear hp hp'
        go_wp2
        go_roundw
        case rel => exact ⟨k + 1, by omega, by go_num, fun j hj hjk => by
          by_cases e : j < k
          · exact HS.out j hj e
          · obtain rfl : j = k := by omega
            exact HP.out, hB⟩
        case measure => simp [intOf]; omega
    · go_wp2
      go_ret
      obtain rfl : k = ps.length := by omega
      exact ⟨ret_int (idxA_none fun j hj => HS.out j hj hj).symm, hb⟩


theorem containsFunc_67 (cap0 : Value) (pr : Score → Bool) (ps : List Score) (v : Value) (w : World) (h : Sl (Flat Score.lst) 3 w v ps)
    (hf : ∀ s : After w, ∀ k (hk : k < ps.length), Calls Try.prog 67 #[ps[k].val, cap0] s.w' fun e w' => e = .returned (.bool (pr ps[k])) ∧ Below s.w'.heap.size s.w' w') :
    Calls Try.prog 65 #[v, .func (.func 67) #[] #[cap0]] w fun e w' => e = .returned (.bool (ps.any pr)) ∧ Below w.heap.size w w' := by
  have HI := Lib.hid (idxA_any pr ps)
  obtain ⟨r, hr⟩ : ∃ r, idxA pr ps = r := ⟨_, rfl⟩
  have hc := indexFunc_67 cap0 pr ps v w h hf
  rw [hr] at hc HI
  clear hr
  go_enter Try.func65, Try.ntmps65
  go_wp2_with (go_at_call 94; refine hc.mono ?_; rintro e w1 ⟨rfl, hb1⟩)
  go_ret
  exact ⟨ret_bool HI.out, hb1⟩


def beatsBy (s x : Score) : Bool := x.race == s.race && decide (s.points < x.points)
def wins (xs : List Score) (r : Int) (s : Score) : Bool := s.runner == r && !xs.any (beatsBy s)
noncomputable def wonS (n m : Int) (xs : List Score) (r : Int) : List Int := if askS n m xs r = true then (xs.filter (wins xs r)).map Score.race else []
theorem filter_take_succ (f : Score → Bool) (xs : List Score) (k : Nat) (h : k < xs.length) : (((xs.take (k + 1)).filter f).map Score.race).map ints = (((xs.take k).filter f).map Score.race).map ints ++ (if f xs[k] = true then [ints xs[k].race] else []) := by
  rw [List.take_succ_eq_append_getElem h, List.filter_append, List.map_append, List.map_append]
  by_cases e : f xs[k] = true
  · simp [e]
  · simp [e]

theorem beats_any (x s : Score) (b : Nat) (w : World) (h1 : w.cell? ⟨b, 1, none⟩ = some (.int .i64 s.race)) (h2 : w.cell? ⟨b, 2, none⟩ = some (.int .i64 s.points)) :
    Calls Try.prog 67 #[x.val, .pointer (some ⟨b, 0, none⟩)] w fun e w' => e = .returned (.bool (beatsBy s x)) ∧ Below w.heap.size w w' := by
  obtain ⟨x, y, z⟩ := x
  have hlt := block_lt_of_cell h1
  simp only at hlt
  show Calls Try.prog 67 #[.agg #[.int .i64 x, .int .i64 y, .int .i64 z], .pointer (some ⟨b, 0, none⟩)] w _
  have hw1 : (w.alloc (.cells #[.int .i64 x, .int .i64 y, .int .i64 z] 33)).cell? ⟨b, 1, none⟩ = some (.int .i64 s.race) := After.keep h1 ⟨_, below_alloc (Below.refl _ _) _⟩
  have hw2 : (w.alloc (.cells #[.int .i64 x, .int .i64 y, .int .i64 z] 33)).cell? ⟨b, 2, none⟩ = some (.int .i64 s.points) := After.keep h2 ⟨_, below_alloc (Below.refl _ _) _⟩
  by_cases hy : y = s.race
  · have hy' : (y == s.race) = true := by simpa using hy
    have HY := Lib.hid hy
    clear hy
    go_enter Try.func67, Try.ntmps67
    go_wp2
    go_ret
    exact ⟨ret_bool (by simp [beatsBy, HY.out]), by (repeat (first | exact Below.refl _ _ | assumption | refine Below.drew ?_ | refine Below.alloc ?_ (by first | exact Nat.le_refl _ | (simp; done) | (simp; omega)) _))⟩
  · have hy' : (y == s.race) = false := by simpa using hy
    have HY := Lib.hid hy
    clear hy
    go_enter Try.func67, Try.ntmps67
    go_wp2
    go_ret
    exact ⟨ret_bool (by simp [beatsBy, HY.out]), by (repeat (first | exact Below.refl _ _ | assumption | refine Below.drew ?_ | refine Below.alloc ?_ (by first | exact Nat.le_refl _ | (simp; done) | (simp; omega)) _))⟩

set_option maxRecDepth 100000 in
set_option maxHeartbeats 4000000 in
theorem impl_RacesWon (x0 x1 : Int) (x2 : List Score) (v2 : Value) (x3 : Int) (w : World) (_ : I64 x0) (_ : I64 x1) (h : Sl (Flat Score.lst) 3 w v2 x2) (_ : ∀ x ∈ x2, Score.ok x) (_ : I64 x3) :
    Calls Try.prog 29 #[.int .i64 x0, .int .i64 x1, v2, .int .i64 x3] w fun e w' => ∃ r0, e = .returned (.tuple #[r0, .bool (askS x0 x1 x2 x3)]) ∧ Row w.heap.size 3 1 w' r0 ((wonS x0 x1 x2 x3).map ints) ∧ Below w.heap.size w w' := by
  by_cases ha : askS x0 x1 x2 x3 = true
  · have hn : x2.length ≤ 1048577 := by have := good_len (show goodS x0 x1 x2 = true by simp [askS] at ha; exact ha.1); omega
    have HC := Lib.hid (show wonS x0 x1 x2 x3 = (x2.filter (wins x2 x3)).map Score.race by unfold wonS; rw [if_pos ha])
    have HA := Lib.hid ha
    clear ha
    have HV := Lib.hid h
    obtain ⟨A, c, rfl, hc, hm, hk⟩ := h.open_
    go_enter Try.func29, Try.ntmps29
    go_wp2_with fail
    refine (hasScore_any x0 x1 x2 x3 _ _ HV.out).mono ?_
    rintro e w1 ⟨rfl, hb1⟩
    rw [HA.out]
    have ownN : Own w 3 1 (w1.alloc (.cells #[] 3)) (.slice (some ⟨w1.heap.size, 0, none⟩) 0 0) [] := Own.nil hb1 _ rfl
    go_wp2_with fail
    go_loopw [10, 22] (fun s i wr => ∃ k : Nat, k ≤ x2.length ∧ i = .int .i64 k ∧ Own w 3 1 wr s ((((x2.take k).filter (wins x2 x3)).map Score.race).map ints))
      (fun _ i _ => x2.length - (intOf i).toNat)
    case atStart => exact ⟨0, Nat.zero_le _, rfl, ownN⟩
    case round =>
      obtain ⟨k, hkl, rfl, own⟩ := hrel
      by_cases hlt : k < x2.length
      · obtain ⟨g, off, rfl, hat⟩ := flat_at hk (by omega)
        have hr := hat k hlt
        have HS := Lib.hid (filter_take_succ (wins x2 x3) x2 k hlt)
        have HLL := Lib.hid (show ((((x2.take k).filter (wins x2 x3)).map Score.race).map ints).length + 1 ≤ 2147483648 by
          have := List.length_filter_le (wins x2 x3) (x2.take k)
          simp at this ⊢
          omega)
        obtain ⟨pl, hpl⟩ : ∃ pl, pl = (((x2.take k).filter (wins x2 x3)).map Score.race).map ints := ⟨_, rfl⟩
        rw [← hpl] at own HS HLL
        obtain ⟨x, hx⟩ : ∃ x, x = x2[k] := ⟨_, rfl⟩
        rw [← hx] at hr HS
        have hr := rangeAt_below hr own.2
        have hcn := Score.cells (Score.rangeNew wr x 33)
        simp only [Nat.zero_add] at hcn
        have HCN := Lib.hid hcn
        have HOB := Lib.hid own
        clear hk hat hx hpl own
        by_cases hrr : x.runner = x3
        · have hr1 : (x.runner == x3) = true := by simpa using hrr
          have HW := Lib.hid (show wins x2 x3 x = !x2.any (beatsBy x) by simp [wins, hr1])
          obtain ⟨bt, hbt⟩ : ∃ bt, bt = x2.any (beatsBy x) := ⟨_, rfl⟩
          rw [← hbt] at HW
          have HBT := Lib.hid hbt
          have hb2 := HOB.out.2.alloc HOB.out.2.size (.cells #[.int .i64 x.runner, .int .i64 x.race, .int .i64 x.points] 33)
          have HB2 := Lib.hid hb2
          clear hrr hbt hb2
          cases bt with
          | true =>
            go_wp2_with (first
              | ((with_reducible refine at_load_ 33 ?_); refine Score.loadImpl rfl _ rfl g (off + k * 3) rfl x hr ?_)
              | (go_at_call 65
                 refine (containsFunc_67 _ (beatsBy x) x2 _ _ (HV.out.below (Flat.keeps _) HB2.out) (fun s j hj => beats_any x2[j] x wr.heap.size s.w' (After.keep HCN.out.2.1 s) (After.keep HCN.out.2.2 s))).mono ?_
                 rintro e w3 ⟨rfl, hb3⟩
                 rw [← HBT.out]
                 have HO3 := Lib.hid ((HOB.out.alloc (.cells #[.int .i64 x.runner, .int .i64 x.race, .int .i64 x.points] 33)).below hb3)
                 have hc3 : w3.cell? ⟨wr.heap.size, 1, none⟩ = some (.int .i64 x.race) := After.keep HCN.out.2.1 ⟨w3, hb3⟩))
            go_roundw
            case rel => exact ⟨k + 1, by omega, by go_num, by rw [HS.out, HW.out]; simpa using HO3.out⟩
            case measure => simp [intOf]; omega
          | false =>
            go_wp2_with (first
              | ((with_reducible refine at_load_ 33 ?_); refine Score.loadImpl rfl _ rfl g (off + k * 3) rfl x hr ?_)
              | (go_at_call 65
                 refine (containsFunc_67 _ (beatsBy x) x2 _ _ (HV.out.below (Flat.keeps _) HB2.out) (fun s j hj => beats_any x2[j] x wr.heap.size s.w' (After.keep HCN.out.2.1 s) (After.keep HCN.out.2.2 s))).mono ?_
                 rintro e w3 ⟨rfl, hb3⟩
                 rw [← HBT.out]
                 have HO3 := Lib.hid ((HOB.out.alloc (.cells #[.int .i64 x.runner, .int .i64 x.race, .int .i64 x.points] 33)).below hb3)
                 have hc3 : w3.cell? ⟨wr.heap.size, 1, none⟩ = some (.int .i64 x.race) := After.keep HCN.out.2.1 ⟨w3, hb3⟩)
              | (at_builtin; refine tyInt.append rfl _ _ rfl w.heap.size _ _ rfl (HO3.out.alloc _).1 _ 1 1 [ints x.race] rfl (Src.lit _ _ (ints x.race) _ (by simp) rfl (ints_one _)) HLL.out (by simp; exact Nat.le_succ_of_le HO3.out.2.size) ?_; intro o4 w4 hrow4 hg4 _))
            have HB4 := Lib.hid ((HO3.out.alloc (.cells #[.int .i64 x.race] 3)).2.grown hg4 (HO3.out.alloc (.cells #[.int .i64 x.race] 3)).2.size (fun q hq => (HO3.out.1.lt q hq).1))
            go_roundw
            case rel => exact ⟨k + 1, by omega, by go_num, by rw [HS.out, HW.out]; exact ⟨hrow4, HB4.out⟩⟩
            case measure => simp [intOf]; omega
        · have hr1 : (x.runner == x3) = false := by simpa using hrr
          have HW := Lib.hid (show wins x2 x3 x = false by simp [wins, hr1])
          clear hrr
          go_wp2_with ((with_reducible refine at_load_ 33 ?_); refine Score.loadImpl rfl _ rfl g (off + k * 3) rfl x hr ?_)
          go_roundw
          case rel => exact ⟨k + 1, by omega, by go_num, by rw [HS.out, HW.out]; simpa using HOB.out.alloc _⟩
          case measure => simp [intOf]; omega
      · go_wp2
        go_ret2
        obtain rfl : k = x2.length := by omega
        rw [List.take_length] at own
        exact ⟨_, by (rw [HA.out] <;> rfl), by rw [HC.out]; exact own.1, own.2⟩
  · have ha' : askS x0 x1 x2 x3 = false := by simpa using ha
    have HA := Lib.hid ha'
    have HC := Lib.hid (show wonS x0 x1 x2 x3 = [] by unfold wonS; rw [if_neg ha])
    clear ha ha'
    go_enter Try.func29, Try.ntmps29
    go_wp2_with fail
    refine (hasScore_any x0 x1 x2 x3 _ _ h).mono ?_
    rintro e w1 ⟨rfl, hb1⟩
    rw [HA.out]
    go_wp2
    go_ret2
    exact ⟨_, by (rw [HA.out] <;> rfl), by rw [HC.out]; exact Row.nil _ _ _ _, hb1⟩
end Go.Proofs.Ythhlfkeikcmnlaa
