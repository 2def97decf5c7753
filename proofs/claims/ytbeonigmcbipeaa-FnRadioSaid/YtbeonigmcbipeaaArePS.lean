/- The walks of the reference's tests on passings. No condition. -/
import Derived.Test.YtbeonigmcbipeaaAreP
namespace Go.Proofs.Ytbeonigmcbipeaa
open Go Go.RowKit

set_option maxHeartbeats 2000000 in
theorem l19One_any (p : Pas) (w : World) (h : p.In w) :
    Calls Try.prog 75 #[p.val] w fun e w' => e = .returned (.bool (goodP1 p.k)) ∧ Below w.heap.size w w' := by
  have hpl := h.len
  obtain ⟨⟨r, sp⟩, A, n, c⟩ := p
  have hs : Sl (Flat ints) 1 w (.slice A n c) sp := h
  simp only at hpl
  subst hpl
  obtain ⟨A', c', hv, hc, hm, hk⟩ := hs.open_
  simp only [Value.slice.injEq] at hv
  obtain ⟨rfl, hq, rfl⟩ := hv
  have hcn := Pas.cellsNew w ⟨⟨r, sp⟩, A, sp.length, c⟩ 49
  simp only at hcn
  clear h hs hq
  show Calls Try.prog 75 #[.agg #[.int .i64 r, .slice A sp.length c]] w fun e w' => e = .returned (.bool (goodP1 ⟨r, sp⟩)) ∧ Below w.heap.size w w'
  have hW : Below w.heap.size w (w.alloc (.cells #[.int .i64 r, .slice A sp.length c] 49)) := by (repeat (first | exact Below.refl _ _ | assumption | refine Below.drew ?_ | refine Below.alloc ?_ (by first | exact Nat.le_refl _ | (simp; done) | (simp; omega)) _))
  go_enter Try.func75, Try.ntmps75
  go_wp2
  generalize w.alloc (.cells #[.int .i64 r, .slice A sp.length c] 49) = W at hcn hW ⊢
  go_loopw [3] (fun i wr => ∃ k : Nat, k ≤ sp.length ∧ i = .int .i64 k ∧ Hid (∀ j (h : j < sp.length), j < k → (1 ≤ sp[j] ∧ sp[j] ≤ 36000) ∧ (0 < j → sp[j - 1] < sp[j])) ∧ Below W.heap.size W wr)
    (fun i _ => sp.length - (intOf i).toNat)
  case atStart => exact ⟨0, Nat.zero_le _, rfl, fun j h hj => absurd hj (by omega), Below.refl _ _⟩
  case round =>
    obtain ⟨k, hkl, rfl, HS, hb⟩ := hrel
    have hc1 := hcn ⟨wr, hb⟩
    simp only at hc1
    have hd := fun (s : After wr) => hcn ⟨s.w', step_ hb (Nat.le_refl _) s.hb⟩
    simp only at hd
    by_cases hlt : k < sp.length
    · obtain ⟨b, off, rfl, hat⟩ := flat_at hk (by omega)
      have hr := After.keep (int_at (rangeAt_below (rangeAt_below (hat k hlt) hW) hb))
      rw [Nat.mul_one] at hr
      have HX := Lib.hid (show ¬ ((1 ≤ sp[k] ∧ sp[k] ≤ 36000) ∧ (0 < k → sp[k - 1] < sp[k])) → ¬ GoodP1 ⟨r, sp⟩ from fun hn hA => hn (hA.2.2 k hlt))
      have HY := Lib.hid (show ((1 ≤ sp[k] ∧ sp[k] ≤ 36000) ∧ (0 < k → sp[k - 1] < sp[k])) → ∀ j (h : j < sp.length), j < k + 1 → (1 ≤ sp[j] ∧ sp[j] ≤ 36000) ∧ (0 < j → sp[j - 1] < sp[j]) from fun hn j hj hjk => by
        by_cases e : j < k
        · exact HS.out j hj e
        · obtain rfl : j = k := by omega
          exact hn)
      have HB0 := Lib.hid (step_ hW (Nat.le_refl _) hb)
      by_cases h0 : 0 < k
      · have hlp : k - 1 < sp.length := by omega
        have hr2 := After.keep (int_at (rangeAt_below (rangeAt_below (hat (k - 1) hlp) hW) hb))
        rw [Nat.mul_one] at hr2
        obtain ⟨x, hx⟩ : ∃ x, x = sp[k] := ⟨_, rfl⟩
        obtain ⟨y, hy⟩ : ∃ y, y = sp[k - 1] := ⟨_, rfl⟩
        rw [← hx] at hr HX HY
        rw [← hy] at hr2 HX HY
        clear hat hk hx hy
        obtain ⟨q, hq1⟩ : ∃ q, inB x 1 36000 = q := ⟨_, rfl⟩
        have HQ := Lib.hid (show q = true ↔ (1 ≤ x ∧ x ≤ 36000) by rw [← hq1]; exact inB_iff)
        go_wp2
        refine region_after (by kernel_rfl) (by kernel_rfl) ?_
        repeat (any_goals (first | go_big_quiet_step (((go_at_call 77; exact Calls.after_same (v := .bool q) _ (l1In_is _ _ _ _ hq1 _))))  | quiet_step (((go_at_call 77; exact Calls.after_same (v := .bool q) _ (l1In_is _ _ _ _ hq1 _)))) | (refine wpQuiet_step (fun K hK => ?_); go_simp; split <;> (refine hK _ ?_; clear hK K))))
        all_goals (refine wpQuiet_nil ?_; intro s)
        all_goals go_wp2
        all_goals first
          | (go_ret
             refine ⟨ret_bool (goodP1_false (HX.out (fun hh => ?_))).symm, step_ HB0.out (Nat.le_refl _) s.hb⟩
             have h2 := hh.2 h0
             have h3 := HQ.out
             grind)
          | (have hB2 := step_ hb (Nat.le_refl _) s.hb
             have hst : (1 ≤ x ∧ x ≤ 36000) ∧ (0 < k → y < x) := by
               have h3 := HQ.out
               grind
             have HY2 := Lib.hid (HY.out hst)
             clear hst
             go_roundw
             case rel => exact ⟨k + 1, by omega, by go_num, HY2.out, hB2⟩
             case measure => simp [intOf]; omega)
      · obtain rfl : k = 0 := by omega
        obtain ⟨x, hx⟩ : ∃ x, x = sp[0] := ⟨_, rfl⟩
        rw [← hx] at hr HX HY
        simp only [Nat.add_zero] at hr
        clear hat hk hx h0
        obtain ⟨q, hq1⟩ : ∃ q, inB x 1 36000 = q := ⟨_, rfl⟩
        have HQ := Lib.hid (show q = true ↔ (1 ≤ x ∧ x ≤ 36000) by rw [← hq1]; exact inB_iff)
        go_wp2
        refine region_after (by kernel_rfl) (by kernel_rfl) ?_
        repeat (any_goals (first | go_big_quiet_step (((go_at_call 77; exact Calls.after_same (v := .bool q) _ (l1In_is _ _ _ _ hq1 _))))  | quiet_step (((go_at_call 77; exact Calls.after_same (v := .bool q) _ (l1In_is _ _ _ _ hq1 _)))) | (refine wpQuiet_step (fun K hK => ?_); go_simp; split <;> (refine hK _ ?_; clear hK K))))
        all_goals (refine wpQuiet_nil ?_; intro s)
        all_goals go_wp2
        all_goals first
          | (go_ret
             refine ⟨ret_bool (goodP1_false (HX.out (fun hh => ?_))).symm, step_ HB0.out (Nat.le_refl _) s.hb⟩
             have h3 := HQ.out
             grind)
          | (have hB2 := step_ hb (Nat.le_refl _) s.hb
             have hst : (1 ≤ x ∧ x ≤ 36000) ∧ (0 < 0 → x < x) := by
               have h3 := HQ.out
               refine ⟨?_, fun h => absurd h (by omega)⟩
               grind
             have HY2 := Lib.hid (HY.out hst)
             clear hst
             go_roundw
             case rel => exact ⟨0 + 1, by omega, by go_num, HY2.out, hB2⟩
             case measure => simp [intOf]; omega)
    · obtain rfl : k = sp.length := by omega
      have HG := Lib.hid (show GoodP1 ⟨r, sp⟩ ↔ (1 ≤ r ∧ r ≤ 99) ∧ sp.length ≤ 4 from ⟨fun h => ⟨h.1, h.2.1⟩, fun h => ⟨h.1, h.2, fun j hj => HS.out j hj hj⟩⟩)
      obtain ⟨q, hq1⟩ : ∃ q, inB r 1 99 = q := ⟨_, rfl⟩
      have HQ := Lib.hid (show q = true ↔ (1 ≤ r ∧ r ≤ 99) by rw [← hq1]; exact inB_iff)
      have HB0 := Lib.hid (step_ hW (Nat.le_refl _) hb)
      clear hk
      go_wp2_with (go_at_call 77; refine (l1In_is _ _ _ _ hq1 _).mono ?_; rintro e w' ⟨rfl, rfl⟩)
      all_goals
        go_ret
        refine ⟨ret_bool ?_, HB0.out⟩
        have h3 := HQ.out
        have h4 := HG.out
        by_cases hh : GoodP1 ⟨r, sp⟩
        · rw [goodP1_true hh]; have := h4.1 hh; grind
        · have : ¬ ((1 ≤ r ∧ r ≤ 99) ∧ sp.length ≤ 4) := fun h => hh (h4.2 h)
          rw [goodP1_false hh]
          try grind

set_option maxHeartbeats 2000000 in
theorem l19Good_any (xs : List Pas) (v : Value) (w : World) (h : PasS w v xs) :
    Calls Try.prog 51 #[v] w fun e w' => e = .returned (.bool (goodPs (xs.map Pas.k))) ∧ Below w.heap.size w w' := by
  have HI := Lib.hid h.2
  obtain ⟨A, c, rfl, hc, hm, hk⟩ := h.1.open_
  clear h
  go_enter Try.func51, Try.ntmps51
  go_wp2
  go_loopw [3] (fun i wr => ∃ k : Nat, k ≤ xs.length ∧ i = .int .i64 k ∧ Hid (∀ j (h : j < (xs.map Pas.k).length), j < k → StandP (xs.map Pas.k) j h) ∧ Below w.heap.size w wr)
    (fun i _ => xs.length - (intOf i).toNat)
  case atStart => exact ⟨0, Nat.zero_le _, rfl, fun j h hj => absurd hj (by omega), Below.refl _ _⟩
  case round =>
    obtain ⟨k, hkl, rfl, HS, hb⟩ := hrel
    by_cases hlt : k < xs.length
    · obtain ⟨b, off, rfl, hat⟩ := flat_at hk (by omega)
      have hlk : k < (xs.map Pas.k).length := by simpa using hlt
      have hr := rangeAt_below (hat k hlt) hb
      have hin := (HI.out _ (List.getElem_mem hlt)).below hb
      have HX := Lib.hid (show ¬ StandP (xs.map Pas.k) k hlk → ¬ GoodPs (xs.map Pas.k) from fun hn hA => hn (hA.1 k hlk))
      have HY := Lib.hid (show StandP (xs.map Pas.k) k hlk → ∀ j (h : j < (xs.map Pas.k).length), j < k + 1 → StandP (xs.map Pas.k) j h from fun hn j hj hjk => by
        by_cases e : j < k
        · exact HS.out j hj e
        · obtain rfl : j = k := by omega
          exact hn)
      have HST := Lib.hid (show StandP (xs.map Pas.k) k hlk ↔ goodP1 xs[k].k = true ∧ (0 < k → (xs[k - 1]'(by omega)).k.runner < xs[k].k.runner) by simp [StandP, goodP1_iff])
      have hpr : ∀ h0 : 0 < k, wr.rangeAt b (off + (k - 1) * 2) (xs[k - 1]'(by omega)).lst := fun h0 => rangeAt_below (hat (k - 1) (by omega)) hb
      obtain ⟨p, hp⟩ : ∃ p, p = xs[k] := ⟨_, rfl⟩
      rw [← hp] at hr hin HST
      have HA := Lib.hid (fun (s : After wr) => l19One_any p s.w' (hin.below s.hb))
      have hcn := Pas.cellsOld hr
      obtain ⟨q, hq⟩ : ∃ q, goodP1 p.k = q := ⟨_, rfl⟩
      rw [hq] at HA HST
      have HB0 := Lib.hid hb
      clear hat hk hp hq hin
      by_cases h0 : 0 < k
      · have hpr := hpr h0
        obtain ⟨y, hy⟩ : ∃ y, y = xs[k - 1] := ⟨_, rfl⟩
        rw [← hy] at hpr HST
        have hyc := Pas.cellsOld hpr
        clear hpr hy
        go_wp2
        refine region_after (by kernel_rfl) (by kernel_rfl) ?_
        repeat (any_goals (first | go_big_quiet_step (((go_at_call 75; exact Calls.after (v := .bool q) _ (HA.out _)))) | (refine Pas.qloadImpl rfl _ rfl b (off + k * 2) rfl p hr ?_) | quiet_step (((go_at_call 75; exact Calls.after (v := .bool q) _ (HA.out _)))) | (refine wpQuiet_step (fun K hK => ?_); go_simp; split <;> (refine hK _ ?_; clear hK K))))
        all_goals (refine wpQuiet_nil ?_; intro s)
        all_goals go_wp2
        all_goals first
          | (go_ret
             refine ⟨ret_bool (goodPs_false (HX.out (fun hh => ?_))).symm, step_ HB0.out (Nat.le_refl _) s.hb⟩
             have hh := HST.out.1 hh
             have h2 := hh.2 h0
             grind)
          | (have hB2 := step_ HB0.out (Nat.le_refl _) s.hb
             have hst : StandP (xs.map Pas.k) k hlk := by
               refine HST.out.2 ⟨?_, fun h0 => ?_⟩
               · grind
               · omega
             have HY2 := Lib.hid (HY.out hst)
             clear hst
             go_roundw
             case rel => exact ⟨k + 1, by omega, by go_num, HY2.out, hB2⟩
             case measure => simp [intOf]; omega)
      · obtain rfl : k = 0 := by omega
        clear hpr h0
        go_wp2
        refine region_after (by kernel_rfl) (by kernel_rfl) ?_
        repeat (any_goals (first | go_big_quiet_step (((go_at_call 75; exact Calls.after (v := .bool q) _ (HA.out _)))) | (refine Pas.qloadImpl rfl _ rfl b (off + 0 * 2) rfl p hr ?_) | quiet_step (((go_at_call 75; exact Calls.after (v := .bool q) _ (HA.out _)))) | (refine wpQuiet_step (fun K hK => ?_); go_simp; split <;> (refine hK _ ?_; clear hK K))))
        all_goals (refine wpQuiet_nil ?_; intro s)
        all_goals go_wp2
        all_goals first
          | (go_ret
             refine ⟨ret_bool (goodPs_false (HX.out (fun hh => ?_))).symm, step_ HB0.out (Nat.le_refl _) s.hb⟩
             have hh := HST.out.1 hh
             grind)
          | (have hB2 := step_ HB0.out (Nat.le_refl _) s.hb
             have hst : StandP (xs.map Pas.k) 0 hlk := by
               refine HST.out.2 ⟨?_, fun h0 => absurd h0 (by omega)⟩
               grind
             have HY2 := Lib.hid (HY.out hst)
             clear hst
             go_roundw
             case rel => exact ⟨0 + 1, by omega, by go_num, HY2.out, hB2⟩
             case measure => simp [intOf]; omega)
    · go_wp2
      go_ret
      obtain rfl : k = xs.length := by omega
      refine ⟨ret_bool ?_, hb⟩
      by_cases h10 : xs.length ≤ 10
      · rw [goodPs_true ⟨fun j hj => HS.out j hj (by simpa using hj), by simpa using h10⟩]; simp; omega
      · rw [goodPs_false (fun hg => h10 (by simpa using hg.2))]; simp; omega

theorem impl_ArePassings (xs : List Pas) (ks : List PK) (v : Value) (w : World) (hk : xs.map Pas.k = ks) (h : PasS w v xs) :
    Calls Try.prog 17 #[v] w fun e w' => e = .returned (.bool (goodPs ks)) ∧ Below w.heap.size w w' := hk ▸ arePassings_any xs v w h
theorem spec_ArePassings (xs : List Pas) (ks : List PK) (v : Value) (w : World) (hk : xs.map Pas.k = ks) (h : PasS w v xs) :
    Calls Try.prog 15 #[v] w fun e w' => e = .returned (.bool (goodPs ks)) ∧ Below w.heap.size w w' := by
  go_enter Try.func15, Try.ntmps15
  go_wp2_with fail
  refine (l19Good_any xs v _ h).mono ?_
  rintro e w1 ⟨rfl, hb1⟩
  rw [hk]
  go_wp2
  go_ret
  exact ⟨rfl, hb1⟩
end Go.Proofs.Ytbeonigmcbipeaa
