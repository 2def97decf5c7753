/- The walk of slices.Compact at integers, on a row of the call's own. No condition beyond a length that fits. -/
import Derived.Test.YthhlfkeikcmnlaaZLibSqz
import Derived.Test.YthhlfkeikcmnlaaZSortI
import Derived.Test.YthhlfkeikcmnlaaZBase
import Derived.Deep.LoopGhost
namespace Go.Proofs.Ythhlfkeikcmnlaa
open Go Go.RowKit

theorem row_ge {base : Nat} {e : TypeId} {sz : Nat} {w : World} {g n cap : Nat} {ys : List (List Value)} (h : Row base e sz w (.slice (some ⟨g, 0, none⟩) n cap) ys) : ys.length ≤ cap := by
  rcases h.2.2 with ⟨h1, _⟩ | ⟨g', cap', cur, h1, _, _, hnc, _⟩
  · simp at h1
  · simp only [Value.slice.injEq, Option.some.injEq, Addr.mk.injEq, and_true] at h1
    omega
set_option maxHeartbeats 4000000 in
theorem compact_int (base : Nat) (l : List Int) (v : Value) (w : World) (h : Row base 3 1 w v (l.map ints)) (hn : l.length ≤ 1048577) :
    Calls Try.prog 95 #[v] w fun e w' => ∃ r, e = .returned r ∧ Row base 3 1 w' r ((squeeze l).map ints) ∧ w.grownBy w' v.ownBlock ∧ r.ownBlock = v.ownBlock := by
  by_cases h2 : l.length < 2
  · have HS := Lib.hid (show squeeze l = l by
      match l, h2 with
      | [], _ => rfl
      | [x], _ => rfl)
    have HR := Lib.hid h
    obtain ⟨A, c, rfl, hc, hm⟩ := h.parts
    simp only [List.length_map] at hc HR ⊢
    clear h
    go_enter Try.func95, Try.ntmps95
    go_wp2
    go_ret
    exact ⟨_, rfl, by rw [HS.out]; exact HR.out, World.grownBy.refl _ _, rfl⟩
  obtain ⟨g, cap, rfl, hbg, hg, hcap⟩ := h.form (by simp; omega)
  simp only [List.length_map] at hcap h ⊢
  have hcm : cap ≤ 9223372036854775807 := by
    obtain ⟨_, _, h1, _, h3⟩ := h.parts
    simp only [Value.slice.injEq] at h1
    omega
  have h2' : 2 ≤ l.length := by omega
  go_enter Try.func95, Try.ntmps95
  go_wp2
  go_loopg [3] l.length (fun gk s3 wr => ∃ k : Nat, 1 ≤ k ∧ k ≤ l.length ∧ l.length - k ≤ gk ∧ s3 = .int .i64 k ∧ Hid (squeeze (l.take k) = l.take k) ∧ Below w.heap.size w wr)
  case atStart =>
    refine ⟨1, Nat.le_refl _, by omega, by omega, rfl, ?_, Below.refl _ _⟩
    match l, h2' with
    | x :: y :: t, _ => rfl
  case round =>
    obtain ⟨k, hk1, hkl, hgk, rfl, HS, hb⟩ := hrel
    by_cases hlt : k < l.length
    · have hrow := h.below hb
      have hc1 := After.keep (row_int hrow hlt)
      have hc0 := After.keep (row_int hrow (k := k - 1) (by omega))
      have HE := Lib.hid (show l[k - 1]? = some (l[k - 1]'(by omega)) from List.getElem?_eq_getElem _)
      obtain ⟨x, hx⟩ : ∃ x, x = l[k] := ⟨_, rfl⟩
      obtain ⟨y, hy⟩ : ∃ y, y = l[k - 1] := ⟨_, rfl⟩
      rw [← hx] at hc1
      rw [← hy] at hc0 HE
      have HX := Lib.hid hx
      have HB0 := Lib.hid hb
      have HR := Lib.hid h
      have hck : ¬ cap = k := by omega
      clear hx hy hrow
      by_cases hdup : x = y
      · subst hdup
        have HC := Lib.hid (Cut.start HS.out hlt (by omega) (by rw [HE.out, HX.out]))
        go_wp2
        refine region_after (by kernel_rfl) (by kernel_rfl) ?_
        repeat (any_goals (first | go_big_quiet_step (fail)  | quiet_step (fail)))
        refine wpQuiet_nil ?_
        intro s
        go_wp2_with fail
        clear hc1 hc0
        go_loopg [3, 5] l.length (fun gm s3 s5 wi => ∃ (kk k2 : Nat) (Y : List Int), s3 = .int .i64 kk ∧ s5 = .int .i64 k2 ∧ 1 ≤ k2 ∧ k + k2 ≤ l.length ∧ l.length - (k + k2) ≤ gm ∧ Row base 3 1 wi (.slice (some ⟨g, 0, none⟩) l.length cap) (Y.map ints) ∧ w.grownBy wi (some g) ∧ Hid (Cut l (k + k2) kk Y))
        case atStart => exact ⟨k, 1, l, rfl, rfl, Nat.le_refl _, by omega, by omega, (HR.out.below HB0.out).below s.hb, grown_of (step_ HB0.out (Nat.le_refl _) s.hb), HC.out⟩
        case round =>
          obtain ⟨kk, k2, Y, rfl, rfl, hk2, hle, hgm, hrow, hgr, HCut⟩ := hrel
          have hkk := HCut.out.lt
          have hyl := HCut.out.size
          have HYL := Lib.hid hyl
          have hyc : Y.length ≤ cap := by omega
          have hckk : ¬ cap = kk := by omega
          by_cases hlt2 : k + k2 < l.length
          · have hcm1 := After.keep (row_int hrow (k := k + k2) (by omega))
            have hcm0 := After.keep (row_int hrow (k := k + (k2 - 1)) (by omega))
            have hE1 : Y[k + k2]'(by omega) = l[k + k2] := by
              have := HCut.out.high (k + k2) (by omega)
              rw [List.getElem?_eq_getElem (by omega), List.getElem?_eq_getElem (by omega)] at this
              simpa using this
            have hE0 : Y[k + (k2 - 1)]'(by omega) = l[k + (k2 - 1)]'(by omega) := by
              have := HCut.out.high (k + (k2 - 1)) (by omega)
              rw [List.getElem?_eq_getElem (by omega), List.getElem?_eq_getElem (by omega)] at this
              simpa using this
            rw [hE1] at hcm1
            rw [hE0] at hcm0
            have HE0 := Lib.hid (show l[k + k2 - 1]? = some (l[k + (k2 - 1)]'(by omega)) by rw [show k + k2 - 1 = k + (k2 - 1) by omega]; exact List.getElem?_eq_getElem _)
            have HCK := Lib.hid (@Cut.keep l Y (k + k2) kk HCut.out hlt2)
            have HCS := Lib.hid (@Cut.skip l Y (k + k2) kk HCut.out hlt2)
            obtain ⟨u, hu⟩ : ∃ u, u = l[k + k2] := ⟨_, rfl⟩
            obtain ⟨t, ht⟩ : ∃ t, t = l[k + (k2 - 1)]'(by omega) := ⟨_, rfl⟩
            rw [← hu] at hcm1 HCK HCS
            rw [← ht] at hcm0 HE0
            have HRW := Lib.hid hrow
            have HGR := Lib.hid hgr
            clear hE1 hE0 hu ht hrow hgr hyl
            by_cases hut : u = t
            · subst hut
              have HN := Lib.hid (HCS.out HE0.out)
              go_wp2
              refine region_after (by kernel_rfl) (by kernel_rfl) ?_
              repeat (any_goals (first | go_big_quiet_step (fail)  | quiet_step (fail)))
              refine wpQuiet_nil ?_
              intro s
              go_wp2
              go_roundg (l.length - (k + (k2 + 1)))
              case measure => omega
              case rel => exact ⟨kk, k2 + 1, Y, rfl, by go_num, by omega, by omega, Nat.le_refl _, HRW.out.below s.hb, HGR.out.trans (grown_of s.hb), HN.out⟩
            · have HN := Lib.hid (HCK.out (by rw [HE0.out]; intro e; exact hut (by simpa using e.symm)))
              go_wp2
              refine region_after (by kernel_rfl) (by kernel_rfl) ?_
              repeat (any_goals (first | go_big_quiet_step (fail)  | quiet_step (fail)))
              refine wpQuiet_nil ?_
              intro s
              have hst := row_int_set (HRW.out.below s.hb) (k := kk) (by have := HYL.out; simp; omega) u
              have hfz := (HRW.out.below s.hb).frozen kk
              have hcu := hcm1 s
              have hold : ∃ o, s.w'.cell? ⟨g, kk, none⟩ = some o := ⟨_, row_int (HRW.out.below s.hb) (k := kk) (by have := HYL.out; omega)⟩
              obtain ⟨old, hold⟩ := hold
              have HST := Lib.hid hst
              clear hst
              go_wp2
              go_roundg (l.length - (k + (k2 + 1)))
              case measure => omega
              case rel => exact ⟨kk + 1, k2 + 1, Y.set kk u, by go_num, by go_num, by omega, by omega, Nat.le_refl _, by rw [List.map_set]; exact HST.out.1, (HGR.out.trans (grown_of s.hb)).trans HST.out.2, HN.out⟩
          · have HFIN := Lib.hid (show Y.take kk = squeeze l by have := HCut.out.low; rwa [List.take_of_length_le (l := l) (by omega)] at this)
            have hki : kk + (l.length - kk) = (Y.map ints).length := by simp; omega
            have hdp : 0 < l.length - kk → (some ⟨g, kk, none⟩ : Option Addr) = some ⟨g, kk * 1, none⟩ := fun _ => by rw [Nat.mul_one]
            have hnl : ¬ k2 < l.length - k := by omega
            have hkc : kk ≤ cap := by omega
            have HRW := Lib.hid hrow
            have HGR := Lib.hid hgr
            have HKY := Lib.hid (show kk ≤ Y.length by omega)
            clear hrow hgr hyl
            go_wp2_with (first
              | ((with_reducible refine at_clear_ ?_); refine tyInt.clear (by simp [Value.oneCell']) rfl _ rfl base g l.length cap _ HRW.out kk (l.length - kk) _ (some ⟨g, kk, none⟩) rfl hki hdp ?_; intro w4 hrow4 hg4)
              | (at_builtin; fail))
            go_ret
            have hp := hrow4.prefix_ (k := kk) (by have := HKY.out; simp; omega)
            rw [List.take_append_of_le_length (by have := HKY.out; simp; omega), List.take_take, Nat.min_eq_left (Nat.le_refl _), ← List.map_take, HFIN.out] at hp
            exact ⟨_, rfl, hp, HGR.out.trans hg4, rfl⟩
      · have HN := Lib.hid (squeeze_all HS.out hlt (fun _ => by rw [HE.out, ← HX.out]; intro e; exact hdup (by simpa using e.symm)))
        go_wp2
        refine region_after (by kernel_rfl) (by kernel_rfl) ?_
        repeat (any_goals (first | go_big_quiet_step (fail)  | quiet_step (fail)))
        refine wpQuiet_nil ?_
        intro s
        go_wp2
        go_roundg (l.length - (k + 1))
        case measure => omega
        case rel => exact ⟨k + 1, by omega, by omega, Nat.le_refl _, by go_num, HN.out, step_ HB0.out (Nat.le_refl _) s.hb⟩
    · obtain rfl : k = l.length := by omega
      have HSL := Lib.hid (show squeeze l = l by have := HS.out; rwa [List.take_length] at this)
      go_wp2
      go_ret
      exact ⟨_, rfl, by rw [HSL.out]; exact h.below hb, grown_of hb, rfl⟩
end Go.Proofs.Ythhlfkeikcmnlaa
