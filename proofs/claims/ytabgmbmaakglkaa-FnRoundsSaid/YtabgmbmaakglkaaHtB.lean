/- The walk of the spec's test on a heat. No condition. -/
import Derived.Test.YtabgmbmaakglkaaHtA
namespace Go.Proofs.Ytabgmbmaakglkaa
open Go Go.RowKit

theorem l1In_is (n lo hi : Int) (r : Bool) (hr : inB n lo hi = r) (w : World) :
    Calls Try.prog 57 #[.int .i64 n, .int .i64 lo, .int .i64 hi] w fun e w' => e = .returned (.bool r) ∧ w = w' := by subst hr; exact l1In_any n lo hi w

set_option maxRecDepth 100000 in
set_option maxHeartbeats 4000000 in
theorem l18One_any (p : Ht) (w : World) (h : p.In w) : Calls Try.prog 51 #[p.val] w fun e w' => e = .returned (.bool (goodH p.k)) ∧ Below w.heap.size w w' := by
  have hpl := h.len
  obtain ⟨⟨rs, ts⟩, A, n, c, B, m, d⟩ := p
  simp only at hpl
  obtain ⟨rfl, rfl⟩ := hpl
  have hW : Below w.heap.size w (w.alloc (.cells #[.slice A rs.length c, .slice B ts.length d] 28)) := below_alloc (Below.refl _ _) _
  have hcn := Ht.cellsNew w ⟨⟨rs, ts⟩, A, rs.length, c, B, ts.length, d⟩ 28
  simp only at hcn
  have h2 := h.below hW
  have hr : Sl (Flat ints) 1 _ (.slice A rs.length c) rs := h2.1
  have ht : Sl (Flat ints) 1 _ (.slice B ts.length d) ts := h2.2
  have HW := Lib.hid hW
  show Calls Try.prog 51 #[.agg #[.slice A rs.length c, .slice B ts.length d]] w fun e w' => e = .returned (.bool (goodH ⟨rs, ts⟩)) ∧ Below w.heap.size w w'
  clear h h2 hW
  obtain ⟨A', c', hv, hcA, hmA, hkA⟩ := hr.open_
  simp only [Value.slice.injEq] at hv
  obtain ⟨rfl, _, rfl⟩ := hv
  obtain ⟨B', d', hv, hcB, hmB, hkB⟩ := ht.open_
  simp only [Value.slice.injEq] at hv
  obtain ⟨rfl, _, rfl⟩ := hv
  have HFR := Lib.hid (fun (k : Nat) (hk : k ≤ rs.length) => Sl.front hr hk)
  have HFT := Lib.hid (fun (k : Nat) (hk : k ≤ ts.length) => Sl.front ht hk)
  clear hr ht
  have hc0 := hcn ⟨_, Below.refl _ _⟩
  cases e1 : inB rs.length 2 6 with
  | false =>
    have HR := Lib.hid (goodH_lens (h := ⟨rs, ts⟩) (fun g => by rw [inB_true (by have := g.1; simp only at this; omega) (by have := g.2.1; simp only at this; omega)] at e1; exact absurd e1 (by simp)))
    rw [HR.out]
    go_enter Try.func51, Try.ntmps51
    go_wp2_with (go_at_call 57; refine (l1In_any _ _ _ _).mono ?_; rintro e w' ⟨rfl, rfl⟩)
    go_ret
    exact ⟨rfl, HW.out⟩
  | true =>
    have E1 := Lib.hid (inB_iff.1 e1)
    cases e2 : ((ts.length : Int) != (rs.length : Int)) with
    | true =>
      have HR := Lib.hid (goodH_lens (h := ⟨rs, ts⟩) (fun g => by have := g.2.2; simp only at this; rw [this] at e2; simp at e2))
      rw [HR.out]
      go_enter Try.func51, Try.ntmps51
      go_wp2_with (go_at_call 57; refine (l1In_any _ _ _ _).mono ?_; rintro e w' ⟨rfl, rfl⟩)
      go_ret
      exact ⟨rfl, HW.out⟩
    | false =>
      have E2 := Lib.hid (show ts.length = rs.length by simp at e2; omega)
      go_enter Try.func51, Try.ntmps51
      go_wp2_with (go_at_call 57; refine (l1In_any _ _ _ _).mono ?_; rintro e w' ⟨rfl, rfl⟩)
      generalize w.alloc (.cells #[.slice A rs.length c, .slice B ts.length d] 28) = W at *
      clear e1 e2 hc0
      go_loopw [3] (fun i wr => ∃ k : Nat, k ≤ rs.length ∧ i = .int .i64 k ∧ Hid (∀ j (h : j < ts.length) (h' : j < rs.length), j < k → okT ts j rs[j] ts[j] = true ∧ (rs.take j).any (fun y => rs[j] == y) = false) ∧ Below W.heap.size W wr)
        (fun i _ => rs.length - (intOf i).toNat)
      case atStart => exact ⟨0, Nat.zero_le _, rfl, fun j h h' hj => absurd hj (by omega), Below.refl _ _⟩
      case round =>
        obtain ⟨k, hkl, rfl, HS, hb⟩ := hrel
        have hc1 := hcn ⟨wr, hb⟩
        simp only at hc1
        have hd := fun (s : After wr) => hcn ⟨s.w', step_ hb (Nat.le_refl _) s.hb⟩
        simp only at hd
        by_cases hlr : k < rs.length
        · have hlt : k < ts.length := by have := E2.out; omega
          obtain ⟨a, oa, rfl, hatA⟩ := flat_at hkA (by omega)
          obtain ⟨b, ob, rfl, hatB⟩ := flat_at hkB (by omega)
          have hcr := After.keep (int_at (rangeAt_below (hatA k hlr) hb))
          have hct := After.keep (int_at (rangeAt_below (hatB k hlt) hb))
          rw [Nat.mul_one] at hcr hct
          obtain ⟨q2, hq2⟩ : ∃ q, (rs.take k).any (fun y => rs[k] == y) = q := ⟨_, rfl⟩
          obtain ⟨q4, hq4⟩ : ∃ q, (ts.take k).any (fun y => ts[k] == y) = q := ⟨_, rfl⟩
          have HC2 := Lib.hid (fun (s : After wr) => l1Has_any (rs.take k) (.slice (some ⟨a, oa, none⟩) k c) rs[k] s.w' ((HFR.out k hkl).below (Flat.keeps _) (step_ hb (Nat.le_refl _) s.hb)))
          have HC4 := Lib.hid (fun (s : After wr) => l1Has_any (ts.take k) (.slice (some ⟨b, ob, none⟩) k d) ts[k] s.w' ((HFT.out k (by omega)).below (Flat.keeps _) (step_ hb (Nat.le_refl _) s.hb)))
          have HK := Lib.hid (okT_is ts k rs[k] ts[k])
          have HB := Lib.hid (fun (g : okT ts k rs[k] ts[k] = false ∨ q2 = true) => show goodH ⟨rs, ts⟩ = false from g.elim (fun g => goodH_bad (h := ⟨rs, ts⟩) hlr hlt g) (fun g => goodH_has (h := ⟨rs, ts⟩) hlr (hq2.trans g)))
          have HN := Lib.hid (fun (g : okT ts k rs[k] ts[k] = true) (g2 : q2 = false) => show ∀ j (h : j < ts.length) (h' : j < rs.length), j < k + 1 → okT ts j rs[j] ts[j] = true ∧ (rs.take j).any (fun y => rs[j] == y) = false from fun j hj hj' hjk => by
            by_cases e : j < k
            · exact HS.out j hj hj' e
            · obtain rfl : j = k := by omega
              exact ⟨g, hq2.trans g2⟩)
          rw [hq2] at HC2
          rw [hq4] at HC4 HK
          have HC3 := Lib.hid (fun (s : After wr) => l12Time_any ts[k] s.w')
          obtain ⟨r, hr⟩ : ∃ r, r = rs[k] := ⟨_, rfl⟩
          obtain ⟨t, ht⟩ : ∃ t, t = ts[k] := ⟨_, rfl⟩
          obtain ⟨o, ho⟩ : ∃ o, o = okT ts k rs[k] ts[k] := ⟨_, rfl⟩
          rw [← ho] at HK HB HN
          rw [← hr] at hcr HK HC2
          rw [← ht] at hct HC4 HC3 HK
          obtain ⟨q1, hq1⟩ : ∃ q, inB r 1 999 = q := ⟨_, rfl⟩
          obtain ⟨q3, hq3⟩ : ∃ q, inB t 0 36000 = q := ⟨_, rfl⟩
          rw [hq1, hq3] at HK
          rw [hq3] at HC3
          clear hatA hatB hkA hkB HFR HFT hr ht ho hq2 hq4 hq3
          go_wp2
          refine region_after (by kernel_rfl) (by kernel_rfl) ?_
          repeat (any_goals (first | go_big_quiet_step ((first | (go_at_call 57; with_reducible exact Calls.after_same (v := .bool q1) _ (l1In_is _ _ _ _ hq1 _)) | (go_at_call 83; with_reducible exact Calls.after_same (v := .bool q3) _ (HC3.out _)) | (go_at_call 81; with_reducible exact Calls.after_same (v := .bool q2) _ (HC2.out _)) | (go_at_call 81; with_reducible exact Calls.after_same (v := .bool q4) _ (HC4.out _))))  | quiet_step ((first | (go_at_call 57; with_reducible exact Calls.after_same (v := .bool q1) _ (l1In_is _ _ _ _ hq1 _)) | (go_at_call 83; with_reducible exact Calls.after_same (v := .bool q3) _ (HC3.out _)) | (go_at_call 81; with_reducible exact Calls.after_same (v := .bool q2) _ (HC2.out _)) | (go_at_call 81; with_reducible exact Calls.after_same (v := .bool q4) _ (HC4.out _)))) | (refine wpQuiet_step (fun K hK => ?_); go_simp; split <;> (refine hK _ ?_; clear hK K))))
          all_goals (refine wpQuiet_nil ?_; intro s)
          all_goals go_wp2
          all_goals first
            | (go_ret
               refine ⟨ret_bool (HB.out ?_).symm, step_ HW.out (Nat.le_refl _) (step_ hb (Nat.le_refl _) s.hb)⟩
               have h3 := HK.out
               grind)
            | (have hB2 := step_ hb (Nat.le_refl _) s.hb
               have HY := Lib.hid (HN.out (by have h3 := HK.out; grind) (by grind))
               go_roundw
               case rel => exact ⟨k + 1, by omega, by go_num, HY.out, hB2⟩
               case measure => simp [intOf]; omega)
        · obtain rfl : k = rs.length := by omega
          have HR := Lib.hid (goodH_spec (h := ⟨rs, ts⟩) (by have := E1.out; constructor <;> (simp only; omega)) E2.out (fun j hj hj' => HS.out j hj' hj hj))
          go_wp2
          go_ret
          exact ⟨ret_bool HR.out.symm, step_ HW.out (Nat.le_refl _) hb⟩
end Go.Proofs.Ytabgmbmaakglkaa
