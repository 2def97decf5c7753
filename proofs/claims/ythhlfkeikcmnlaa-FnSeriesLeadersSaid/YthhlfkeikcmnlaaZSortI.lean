/- The library's sort of a short slice of integers: what it leaves is in order and holds the same numbers. No condition beyond the length. -/
import Derived.RegionTactic
import Derived.ChangeAlike
import Derived.BigRegion
import Derived.Test.YthhlfkeikcmnlaaZInts
import Derived.Test.YthhlfkeikcmnlaaZLibSqz
namespace Go.Proofs.Ythhlfkeikcmnlaa
open Go Go.RowKit

/-! ### The walks -/
theorem row_int {base : Nat} {e : TypeId} {w : World} {g n cap : Nat} {ys : List Int} (h : Row base e 1 w (.slice (some ⟨g, 0, none⟩) n cap) (ys.map ints)) {k : Nat} (hk : k < ys.length) : w.cell? ⟨g, k, none⟩ = some (.int .i64 ys[k]) := by
  have := h.cell (k := k) (j := 0) (by simpa using hk) (by omega)
  simpa [ints] using this
theorem row_int_set {base : Nat} {e : TypeId} {w : World} {g n cap : Nat} {ys : List (List Value)} (h : Row base e 1 w (.slice (some ⟨g, 0, none⟩) n cap) ys) {k : Nat} (hk : k < ys.length) (u : Int) :
    Row base e 1 (w.setCell ⟨g, k, none⟩ (.int .i64 u)) (.slice (some ⟨g, 0, none⟩) n cap) (ys.set k (ints u)) ∧ w.grownBy (w.setCell ⟨g, k, none⟩ (.int .i64 u)) (some g) := by
  have h1 := h.stored (k := k) (j := 0) hk (by omega) (.int .i64 u)
  have hl := h.1 _ (List.getElem_mem hk)
  obtain ⟨a, ha⟩ := List.length_eq_one_iff.1 hl
  rw [ha] at h1
  simpa [ints] using h1

theorem less_any (x y : Int) (w : World) : Calls Try.prog 115 #[.int .i64 x, .int .i64 y] w fun e w' => e = .returned (.bool (decide (x < y))) ∧ w = w' := by
  go_enter Try.func115, Try.ntmps115
  go_wp2
  all_goals (go_ret; exact ⟨rfl, rfl⟩)

set_option maxHeartbeats 4000000 in
theorem insertion_any (base g n cap : Nat) (xs : List Int) (w : World) (hrow : Row base 3 1 w (.slice (some ⟨g, 0, none⟩) n cap) (xs.map ints)) (hn : n = xs.length) (hc : cap ≤ 9223372036854775807) :
    Calls Try.prog 109 #[.slice (some ⟨g, 0, none⟩) n cap, .int .i64 0, .int .i64 n] w fun e w' => e = .returned (.tuple #[]) ∧ Row base 3 1 w' (.slice (some ⟨g, 0, none⟩) n cap) ((putAll ltI xs).map ints) ∧ w.grownBy w' (some g) := by
  subst hn
  have hcl : xs.length ≤ cap := by
    rcases hrow.2.2 with ⟨h1, _⟩ | ⟨g', cap', cur, h1, _, _, hnc, _⟩
    · simp at h1
    · simp at h1 hnc
      omega
  go_enter Try.func109, Try.ntmps109
  go_wp2
  go_loopw [6, 7] (fun i _ wr => ∃ (k : Nat), 1 ≤ k ∧ (k ≤ xs.length ∨ k = 1) ∧ i = .int .i64 k ∧ Row base 3 1 wr (.slice (some ⟨g, 0, none⟩) xs.length cap) ((putAll ltI (xs.take k) ++ xs.drop k).map ints) ∧ w.grownBy wr (some g))
    (fun i _ _ => xs.length - (intOf i).toNat)
  case atStart =>
    refine ⟨1, by omega, .inr rfl, rfl, ?_, World.grownBy.refl _ _⟩
    have e : putAll ltI (xs.take 1) ++ xs.drop 1 = xs := by
      cases xs with
      | nil => rfl
      | cons x xs => rfl
    rw [e]
    exact hrow
  case round =>
    obtain ⟨k, hk1, hk2, rfl, hry, hgr⟩ := hrel
    by_cases hlt : k < xs.length
    · go_wp2
      obtain ⟨wo, rfl⟩ : ∃ wo : World, wo = wr := ⟨_, rfl⟩
      have hpl : (putAll ltI (xs.take k)).length = k := by rw [putAll_len]; simp; omega
      have HST := Lib.hid (putAll_take ltI xs k hlt)
      obtain ⟨pre, hpre⟩ : ∃ pre, putAll ltI (xs.take k) = pre := ⟨_, rfl⟩
      rw [hpre] at hpl hry HST
      obtain ⟨x, hx⟩ : ∃ x, xs[k] = x := ⟨_, rfl⟩
      rw [hx] at HST
      have hdr : xs.drop k = x :: xs.drop (k + 1) := by rw [List.drop_eq_getElem_cons hlt, hx]
      rw [hdr, ← midIn_start, hpl] at hry
      have HPL := Lib.hid hpl
      clear hdr hpl hpre hx
      go_loopw [7] (fun jv wi => ∃ (j : Nat), j ≤ k ∧ jv = .int .i64 j ∧ Hid (∀ p (h : p < pre.length), j ≤ p → ltI x pre[p] = true) ∧ Row base 3 1 wi (.slice (some ⟨g, 0, none⟩) xs.length cap) ((midIn pre (xs.drop (k + 1)) x j).map ints) ∧ w.grownBy wi (some g))
        (fun jv _ => (intOf jv).toNat)
      case atStart => exact ⟨k, Nat.le_refl _, rfl, fun p h hp => absurd h (by rw [HPL.out]; omega), hry, hgr⟩
      case round =>
        obtain ⟨j, hjk, rfl, HB, hrz, hgz⟩ := hrel
        have hml : (midIn pre (xs.drop (k + 1)) x j).length = xs.length := by rw [midIn_len (by rw [HPL.out]; exact hjk), HPL.out]; simp; omega
        have HML := Lib.hid hml
        clear hml
        by_cases h0 : 0 < j
        · have hjm : j < (midIn pre (xs.drop (k + 1)) x j).length := by rw [HML.out]; omega
          have hjm1 : j - 1 < (midIn pre (xs.drop (k + 1)) x j).length := by rw [HML.out]; omega
          have hjp : j - 1 < pre.length := by rw [HPL.out]; omega
          have hc1 := row_int hrz hjm
          rw [midIn_at (by rw [HPL.out]; exact hjk)] at hc1
          have hc2 := row_int hrz hjm1
          rw [midIn_before h0 (by rw [HPL.out]; exact hjk)] at hc2
          obtain ⟨y, hy⟩ : ∃ y, pre[j - 1]'hjp = y := ⟨_, rfl⟩
          rw [hy] at hc2
          have HY := Lib.hid hy
          have hd1 := After.keep hc1
          have hd2 := After.keep hc2
          clear hy hc1 hc2 hjm hjm1
          by_cases hl : x < y
          · have hl' : decide (x < y) = true := by simpa using hl
            go_wp2
            refine region_after (by kernel_rfl) (by kernel_rfl) ?_
            repeat (any_goals (first | go_big_quiet_step (((go_at_call 115; exact Calls.after_same (v := .bool true) _ ((less_any _ _ _).mono fun e w' ⟨he, hw⟩ => ⟨by rw [he, hl'], hw⟩))))  | quiet_step (((go_at_call 115; exact Calls.after_same (v := .bool true) _ ((less_any _ _ _).mono fun e w' ⟨he, hw⟩ => ⟨by rw [he, hl'], hw⟩))))))
            refine wpQuiet_nil ?_
            intro s
            have he1 := hd1 s
            have he2 := hd2 s
            have hrs := hrz.below s.hb
            have hgs : w.grownBy s.w' (some g) := grown_trans hgz ⟨s.hb.os, s.hb.tape, s.hb.output, s.hb.size, fun q hq _ => s.hb.block q hq⟩
            have hf1 := hrs.frozen j
            have hf2 := hrs.frozen (j - 1)
            obtain ⟨ws, hws⟩ : ∃ ws, s.w' = ws := ⟨_, rfl⟩
            rw [hws] at he1 he2 hrs hgs hf1 hf2 ⊢
            clear hd1 hd2 hws s hrz
            go_wp2
            go_region
            obtain ⟨r1, g1⟩ := row_int_set hrs (k := j) (by simp; rw [HML.out]; omega) y
            obtain ⟨r2, g2⟩ := row_int_set r1 (k := j - 1) (by simp; rw [HML.out]; omega) x
            have r3 := r2.drew
            have g3 : w.grownBy ((ws.setCell ⟨g, j, none⟩ (.int .i64 y)).setCell ⟨g, j - 1, none⟩ (.int .i64 x)).drew (some g) := grown_trans hgs (grown_trans g1 ⟨g2.os, g2.tape, g2.output, g2.size, g2.block⟩)
            rw [← List.map_set, ← List.map_set, ← HY.out, midIn_swap h0 (by rw [HPL.out]; exact hjk)] at r3
            rw [HY.out] at r3
            clear r1 g1 r2 g2 hrs hgs he1 he2 hf1 hf2
            go_wp2
            go_roundw
            case rel =>
              refine ⟨j - 1, by omega, by congr 1; omega, fun p hp hjp2 => ?_, r3, g3⟩
              by_cases e : p = j - 1
              · subst e; rw [HY.out]; simpa [ltI] using hl
              · exact HB.out p hp (by omega)
            case measure => simp [intOf]; omega
          · have hl' : decide (x < y) = false := by simpa using hl
            go_wp2
            refine region_after (by kernel_rfl) (by kernel_rfl) ?_
            repeat (any_goals (first | go_big_quiet_step (((go_at_call 115; exact Calls.after_same (v := .bool false) _ ((less_any _ _ _).mono fun e w' ⟨he, hw⟩ => ⟨by rw [he, hl'], hw⟩))))  | quiet_step (((go_at_call 115; exact Calls.after_same (v := .bool false) _ ((less_any _ _ _).mono fun e w' ⟨he, hw⟩ => ⟨by rw [he, hl'], hw⟩))))))
            refine wpQuiet_nil ?_
            intro s
            have hrs := hrz.below s.hb
            have hgs : w.grownBy s.w' (some g) := grown_trans hgz ⟨s.hb.os, s.hb.tape, s.hb.output, s.hb.size, fun q hq _ => s.hb.block q hq⟩
            go_wp2
            go_roundw
            case rel =>
              refine ⟨k + 1, by omega, .inl (by omega), by go_num, ?_, hgs⟩
              rw [HST.out]
              rw [midIn_end ltI (by rw [HPL.out]; exact hjk) HB.out (.inr ⟨hjp, by rw [HY.out]; simpa [ltI] using hl⟩)] at hrs
              exact hrs
            case measure => simp [intOf]; omega
        · have h0' : decide (0 < j) = false := by simpa using h0
          obtain rfl : j = 0 := by omega
          clear h0 h0'
          have hz : decide ((0 : Int) < 0) = false := rfl
          go_wp2
          refine region_after (by kernel_rfl) (by kernel_rfl) ?_
          repeat (any_goals (first | go_big_quiet_step ((fail))  | quiet_step ((fail))))
          refine wpQuiet_nil ?_
          intro s
          have hrs := hrz.below s.hb
          have hgs : w.grownBy s.w' (some g) := grown_trans hgz ⟨s.hb.os, s.hb.tape, s.hb.output, s.hb.size, fun q hq _ => s.hb.block q hq⟩
          go_wp2
          go_roundw
          case rel =>
            refine ⟨k + 1, by omega, .inl (by omega), by go_num, ?_, hgs⟩
            rw [HST.out]
            rw [midIn_end ltI (by rw [HPL.out]; exact hjk) HB.out (.inl rfl)] at hrs
            exact hrs
          case measure => simp [intOf]; omega
    · go_wp2
      go_end0
      refine ⟨rfl, ?_, hgr⟩
      have hk3 : xs.length ≤ k := by omega
      rw [List.take_of_length_le hk3, List.drop_of_length_le hk3, List.append_nil] at hry
      exact hry
end Go.Proofs.Ythhlfkeikcmnlaa
