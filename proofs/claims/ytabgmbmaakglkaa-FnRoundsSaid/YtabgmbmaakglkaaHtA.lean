/- The walks of the tests on heats. No condition. -/
import Derived.Test.YtabgmbmaakglkaaHt
import Derived.Test.YtabgmbmaakglkaaHtQ
import Derived.Test.YtabgmbmaakglkaaIntL
namespace Go.Proofs.Ytabgmbmaakglkaa
open Go Go.RowKit

theorem Sl.front {α : Type} {enc : α → List Value} {sz : Nat} {w : World} {A : Option Addr} {n c k : Nat} {xs : List α} (h : Sl (Flat enc) sz w (.slice A n c) xs) (hk : k ≤ n) :
    Sl (Flat enc) sz w (.slice A k c) (xs.take k) := by
  obtain ⟨A', c', hv, hc, hm, h⟩ := h
  simp only [Value.slice.injEq] at hv
  obtain ⟨rfl, rfl, rfl⟩ := hv
  have hl : (xs.take k).length = k := by simp; omega
  refine ⟨A, c, by rw [hl], by rw [hl]; omega, hm, fun h0 => ?_⟩
  obtain ⟨b, off, hA, hat⟩ := h (by rw [hl] at h0; omega)
  refine ⟨b, off, hA, fun j hj => ?_⟩
  obtain ⟨cs, h1, h2, h3⟩ := hat j (by rw [hl] at hj; omega)
  exact ⟨cs, h1, h2, by rw [List.getElem_take]; exact h3⟩

set_option maxHeartbeats 1000000 in
theorem hasTwice_any (xs : List Int) (v : Value) (w : World) (h : Sl (Flat ints) 1 w v xs) :
    Calls Try.prog 69 #[v] w fun e w' => e = .returned (.bool (twice xs)) ∧ w = w' := by
  have h' := h
  obtain ⟨A, c, rfl, hc, hm, hk⟩ := h.open_
  have HF := Lib.hid (fun (k : Nat) (hk : k ≤ xs.length) => Sl.front h' hk)
  clear h h'
  go_enter Try.func69, Try.ntmps69
  go_wp2
  go_loop [7] (fun i => ∃ k : Nat, k ≤ xs.length ∧ i = .int .i64 k ∧ Hid (∀ j (h : j < xs.length), j < k → (xs.take j).any (fun y => xs[j] == y) = false))
    (fun i => xs.length - (intOf i).toNat)
  case atStart => exact ⟨0, Nat.zero_le _, rfl, fun j h hj => absurd hj (by omega)⟩
  case round =>
    obtain ⟨k, hkl, rfl, HS⟩ := hrel
    by_cases hlt : k < xs.length
    · obtain ⟨b, off, rfl, hat⟩ := flat_at hk (by omega)
      have hcs := int_at (hat k hlt)
      rw [Nat.mul_one] at hcs
      have HC := Lib.hid (fun W (hW : w = W) => containsInt_any (xs.take k) (.slice (some ⟨b, off, none⟩) k c) xs[k] W (hW ▸ HF.out k hkl))
      clear hat hk HF
      cases hq : (xs.take k).any (fun y => xs[k] == y) with
      | true =>
        have HQ := Lib.hid hq
        rw [hq] at HC
        clear hq
        go_wp2_with (go_at_call 72; refine (HC.out _ rfl).mono ?_; rintro e w' ⟨rfl, rfl⟩)
        go_ret
        exact ⟨ret_bool (twice_at hlt HQ.out).symm, rfl⟩
      | false =>
        have HP := Lib.hid hq
        rw [hq] at HC
        clear hq
        go_wp2_with (go_at_call 72; refine (HC.out _ rfl).mono ?_; rintro e w' ⟨rfl, rfl⟩)
        go_round
        case rel => exact ⟨k + 1, by omega, by go_num, fun j hj hjk => by
          by_cases e : j < k
          · exact HS.out j hj e
          · obtain rfl : j = k := by omega
            exact HP.out⟩
        case measure => simp [intOf]; omega
    · go_wp2
      go_ret
      obtain rfl : k = xs.length := by omega
      exact ⟨ret_bool (twice_no fun j hj => HS.out j hj hj).symm, rfl⟩

theorem okT_is (ts : List Int) (i : Nat) (r t : Int) : okT ts i r t = (inB r 1 999 && (inB t 0 36000 && !(decide (0 < t) && (ts.take i).any (fun y => t == y)))) := rfl

set_option maxRecDepth 100000 in
set_option maxHeartbeats 2000000 in
theorem IsHeat_any (p : Ht) (w : World) (h : p.In w) : Calls Try.prog 37 #[p.val] w fun e w' => e = .returned (.bool (goodH p.k)) ∧ Below w.heap.size w w' := by
  have hpl := h.len
  obtain ⟨⟨rs, ts⟩, A, n, c, B, m, d⟩ := p
  simp only at hpl
  obtain ⟨rfl, rfl⟩ := hpl
  have hW : Below w.heap.size w (w.alloc (.cells #[.slice A rs.length c, .slice B ts.length d] 28)) := below_alloc (Below.refl _ _) _
  have hcn := Ht.cellsNew w ⟨⟨rs, ts⟩, A, rs.length, c, B, ts.length, d⟩ 28 ⟨_, Below.refl _ _⟩
  simp only at hcn
  obtain ⟨hc0, hc1⟩ := hcn
  have h2 := h.below hW
  have hr : Sl (Flat ints) 1 _ (.slice A rs.length c) rs := h2.1
  have ht : Sl (Flat ints) 1 _ (.slice B ts.length d) ts := h2.2
  have HW := Lib.hid hW
  show Calls Try.prog 37 #[.agg #[.slice A rs.length c, .slice B ts.length d]] w fun e w' => e = .returned (.bool (goodH ⟨rs, ts⟩)) ∧ Below w.heap.size w w'
  clear h h2 hW
  obtain ⟨A', c', hv, hcA, hmA, hkA⟩ := hr.open_
  simp only [Value.slice.injEq] at hv
  obtain ⟨rfl, _, rfl⟩ := hv
  obtain ⟨B', d', hv, hcB, hmB, hkB⟩ := ht.open_
  simp only [Value.slice.injEq] at hv
  obtain ⟨rfl, _, rfl⟩ := hv
  have HT := Lib.hid (hasTwice_any rs _ _ hr)
  have HF := Lib.hid (fun (k : Nat) (hk : k ≤ ts.length) => Sl.front ht hk)
  clear hr ht
  cases e1 : inB rs.length 2 6 with
  | false =>
    have HR := Lib.hid (goodH_lens (h := ⟨rs, ts⟩) (fun g => by rw [inB_true (by have := g.1; simp only at this; omega) (by have := g.2.1; simp only at this; omega)] at e1; exact absurd e1 (by simp)))
    rw [HR.out]
    go_enter Try.func37, Try.ntmps37
    go_wp2_with (go_at_call 59; refine (inside_any _ _ _ _).mono ?_; rintro e w' ⟨rfl, rfl⟩)
    go_ret
    exact ⟨rfl, HW.out⟩
  | true =>
    have E1 := Lib.hid (inB_iff.1 e1)
    cases e2 : ((ts.length : Int) != (rs.length : Int)) with
    | true =>
      have HR := Lib.hid (goodH_lens (h := ⟨rs, ts⟩) (fun g => by have := g.2.2; simp only at this; rw [this] at e2; simp at e2))
      rw [HR.out]
      go_enter Try.func37, Try.ntmps37
      go_wp2_with (go_at_call 59; refine (inside_any _ _ _ _).mono ?_; rintro e w' ⟨rfl, rfl⟩)
      go_ret
      exact ⟨rfl, HW.out⟩
    | false =>
      have E2 := Lib.hid (show ts.length = rs.length by simp at e2; omega)
      cases e3 : twice rs with
      | true =>
        have HR := Lib.hid (goodH_twice (h := ⟨rs, ts⟩) e3)
        rw [HR.out]
        rw [e3] at HT
        clear e3
        go_enter Try.func37, Try.ntmps37
        go_wp2_with (first
          | (go_at_call 59; refine (inside_any _ _ _ _).mono ?_; rintro e w' ⟨rfl, rfl⟩)
          | (go_at_call 69; refine HT.out.mono ?_; rintro e w' ⟨rfl, rfl⟩))
        go_ret
        exact ⟨rfl, HW.out⟩
      | false =>
        have E3 := Lib.hid e3
        rw [e3] at HT
        clear e3
        go_enter Try.func37, Try.ntmps37
        go_wp2_with (first
          | (go_at_call 59; refine (inside_any _ _ _ _).mono ?_; rintro e w' ⟨rfl, rfl⟩)
          | (go_at_call 69; refine HT.out.mono ?_; rintro e w' ⟨rfl, rfl⟩))
        generalize w.alloc (.cells #[.slice A rs.length c, .slice B ts.length d] 28) = W at *
        go_loop [27] (fun i => ∃ k : Nat, k ≤ ts.length ∧ i = .int .i64 k ∧ Hid (∀ j (h : j < ts.length) (h' : j < rs.length), j < k → okT ts j rs[j] ts[j] = true))
          (fun i => ts.length - (intOf i).toNat)
        case atStart => exact ⟨0, Nat.zero_le _, rfl, fun j h h' hj => absurd hj (by omega)⟩
        case round =>
          obtain ⟨k, hkl, rfl, HS⟩ := hrel
          by_cases hlt : k < ts.length
          · have hlr : k < rs.length := by have := E2.out; omega
            obtain ⟨a, oa, rfl, hatA⟩ := flat_at hkA (by omega)
            obtain ⟨b, ob, rfl, hatB⟩ := flat_at hkB (by omega)
            have hcr := int_at (hatA k hlr)
            have hct := int_at (hatB k hlt)
            rw [Nat.mul_one] at hcr hct
            have HC := Lib.hid (fun V (hV : W = V) => containsInt_any (ts.take k) (.slice (some ⟨b, ob, none⟩) k d) ts[k] V (hV ▸ HF.out k hkl))
            have HK := Lib.hid (okT_is ts k rs[k] ts[k])
            have HB := Lib.hid (fun (g : okT ts k rs[k] ts[k] = false) => goodH_bad (h := ⟨rs, ts⟩) hlr hlt g)
            have HN := Lib.hid (fun (g : okT ts k rs[k] ts[k] = true) => show ∀ j (h : j < ts.length) (h' : j < rs.length), j < k + 1 → okT ts j rs[j] ts[j] = true from fun j hj hj' hjk => by
              by_cases e : j < k
              · exact HS.out j hj hj' e
              · obtain rfl : j = k := by omega
                exact g)
            obtain ⟨r, hr⟩ : ∃ r, r = rs[k] := ⟨_, rfl⟩
            obtain ⟨t, ht⟩ : ∃ t, t = ts[k] := ⟨_, rfl⟩
            obtain ⟨o, ho⟩ : ∃ o, o = okT ts k rs[k] ts[k] := ⟨_, rfl⟩
            rw [← ho] at HK HB HN
            rw [← hr] at hcr HK
            rw [← ht] at hct HC HK
            clear hatA hatB hkA hkB HF hr ht ho
            cases b1 : inB r 1 999 with
            | false =>
              obtain rfl : o = false := by rw [HK.out, b1]; rfl
              go_wp2_with (go_at_call 70; refine (isRunnerNumber_any _ _).mono ?_; rintro e w' ⟨rfl, rfl⟩)
              go_ret
              exact ⟨ret_bool (HB.out (by first | rfl | trivial)).symm, HW.out⟩
            | true =>
              cases b2 : inB t 0 36000 with
              | false =>
                obtain rfl : o = false := by rw [HK.out, b1, b2]; rfl
                go_wp2_with (first
                  | (go_at_call 70; refine (isRunnerNumber_any _ _).mono ?_; rintro e w' ⟨rfl, rfl⟩)
                  | (go_at_call 71; refine (isTime_any _ _).mono ?_; rintro e w' ⟨rfl, rfl⟩))
                go_ret
                exact ⟨ret_bool (HB.out (by first | rfl | trivial)).symm, HW.out⟩
              | true =>
                cases b3 : decide (0 < t) with
                | false =>
                  obtain rfl : o = true := by rw [HK.out, b1, b2, b3]; rfl
                  go_wp2_with (first
                    | (go_at_call 70; refine (isRunnerNumber_any _ _).mono ?_; rintro e w' ⟨rfl, rfl⟩)
                    | (go_at_call 71; refine (isTime_any _ _).mono ?_; rintro e w' ⟨rfl, rfl⟩))
                  go_round
                  case rel => exact ⟨k + 1, by omega, by go_num, HN.out (by first | rfl | trivial)⟩
                  case measure => simp [intOf]; omega
                | true =>
                  cases b4 : (ts.take k).any (fun y => t == y) with
                  | true =>
                    obtain rfl : o = false := by rw [HK.out, b1, b2, b3, b4]; rfl
                    rw [b4] at HC
                    clear b4
                    go_wp2_with (first
                      | (go_at_call 70; refine (isRunnerNumber_any _ _).mono ?_; rintro e w' ⟨rfl, rfl⟩)
                      | (go_at_call 71; refine (isTime_any _ _).mono ?_; rintro e w' ⟨rfl, rfl⟩)
                      | (go_at_call 72; refine (HC.out _ rfl).mono ?_; rintro e w' ⟨rfl, rfl⟩))
                    go_ret
                    exact ⟨ret_bool (HB.out (by first | rfl | trivial)).symm, HW.out⟩
                  | false =>
                    obtain rfl : o = true := by rw [HK.out, b1, b2, b3, b4]; rfl
                    rw [b4] at HC
                    clear b4
                    go_wp2_with (first
                      | (go_at_call 70; refine (isRunnerNumber_any _ _).mono ?_; rintro e w' ⟨rfl, rfl⟩)
                      | (go_at_call 71; refine (isTime_any _ _).mono ?_; rintro e w' ⟨rfl, rfl⟩)
                      | (go_at_call 72; refine (HC.out _ rfl).mono ?_; rintro e w' ⟨rfl, rfl⟩))
                    go_round
                    case rel => exact ⟨k + 1, by omega, by go_num, HN.out (by first | rfl | trivial)⟩
                    case measure => simp [intOf]; omega
          · obtain rfl : k = ts.length := by omega
            have HR := Lib.hid (goodH_impl (h := ⟨rs, ts⟩) (by have := E1.out; constructor <;> (simp only; omega)) E2.out E3.out (fun j hj hj' => HS.out j hj' hj hj'))
            go_wp2
            go_ret
            exact ⟨ret_bool HR.out.symm, HW.out⟩
end Go.Proofs.Ytabgmbmaakglkaa
