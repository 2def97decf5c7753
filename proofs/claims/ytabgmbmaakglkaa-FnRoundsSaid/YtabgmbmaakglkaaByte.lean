/- The code handed to a law; the laws' tests of a code's length and of two int slices. No condition. -/
import Derived.Test.YtabgmbmaakglkaaCode
import Derived.Test.YtabgmbmaakglkaaInts
namespace Go.Proofs.Ytabgmbmaakglkaa
open Go Go.RowKit

theorem fitCode : Fit Try.prog (.sl 5 (.int .u8)) (.inl 54) := ⟨Try.underlying54, by kernel_rfl, by decide, Try.underlying5⟩
theorem codeS_of_holds {w : World} {v : Value} (h : Holds w (.sl 5 (.int .u8)) [v]) : ∃ m, CodeS w v m := by
  obtain ⟨A, n, c, hv, hn, hc, hk⟩ := h
  simp only [List.cons.injEq, and_true] at hv
  simp only [maxLen] at hc
  refine ⟨n, A, c, hv, hn, by omega, fun h0 => ?_⟩
  obtain ⟨b, off, hA, hat⟩ := hk h0
  refine ⟨b, off, hA, fun k hkn => ?_⟩
  obtain ⟨cs, hl, hcell, x, hx, hw⟩ := hat k hkn
  subst hx
  have h1 := hcell 0 _ rfl
  have hb : 0 ≤ x ∧ x ≤ 255 := by simpa [Lit.wf, IntKind.min, IntKind.max, IntKind.signed, IntKind.bits] using hw
  refine ⟨x, hb.1, hb.2, ?_⟩
  simpa [Sh.size] using h1
set_option maxHeartbeats 400000 in
theorem rBig_any (v : Value) (m : Nat) (q : Bool) (w : World) (h : CodeS w v m) (hq : q = decide (65536 < m)) :
    Calls Try.prog 34 #[v] w fun e w' => e = .returned (.bool q) ∧ Below w.heap.size w w' := by
  obtain ⟨A, c, rfl, hc, hm, _⟩ := h
  cases q with
  | true =>
    have hq' : 65536 < m := by simpa using hq
    clear hq
    go_enter Try.func34, Try.ntmps34
    go_wp2
    go_ret
    exact ⟨by simp; omega, Below.refl _ _⟩
  | false =>
    have hq' : ¬ 65536 < m := by simpa using hq
    clear hq
    go_enter Try.func34, Try.ntmps34
    go_wp2
    go_ret
    exact ⟨by simp; omega, Below.refl _ _⟩
set_option maxHeartbeats 400000 in
theorem rInts_refl (xs : List Int) (v v' : Value) (w : World) (h : Sl (Flat ints) 1 w v xs) (h' : Sl (Flat ints) 1 w v' xs) :
    Calls Try.prog 36 #[v, v'] w fun e w' => e = .returned (.bool true) ∧ Below w.heap.size w w' := by
  obtain ⟨A, c, rfl, hc, hm, hk⟩ := h.open_
  obtain ⟨A', c', rfl, hc', hm', hk'⟩ := h'.open_
  go_enter Try.func36, Try.ntmps36
  go_wp2
  go_loopw [5] (fun i wr => ∃ k : Nat, k ≤ xs.length ∧ i = .int .i64 k ∧ Below w.heap.size w wr)
    (fun i _ => xs.length - (intOf i).toNat)
  case atStart => exact ⟨0, Nat.zero_le _, rfl, Below.refl _ _⟩
  case round =>
    obtain ⟨k, hkl, rfl, hb⟩ := hrel
    by_cases hlt : k < xs.length
    · obtain ⟨b, off, rfl, hat⟩ := flat_at hk (by omega)
      obtain ⟨b', off', rfl, hat'⟩ := flat_at hk' (by omega)
      have hr := After.keep (int_at (rangeAt_below (hat k hlt) hb))
      have hr' := After.keep (int_at (rangeAt_below (hat' k hlt) hb))
      rw [Nat.mul_one] at hr hr'
      clear hat hat' hk hk' h h'
      go_wp2
      refine region_after (by kernel_rfl) (by kernel_rfl) ?_
      repeat (any_goals (first | go_big_quiet_step ((fail))  | quiet_step ((fail))))
      refine wpQuiet_nil ?_
      intro s
      go_wp2
      go_roundw
      case rel => exact ⟨k + 1, by omega, by go_num, step_ hb (Nat.le_refl _) s.hb⟩
      case measure => simp [intOf]; omega
    · go_wp2
      go_ret
      exact ⟨rfl, hb⟩
set_option maxHeartbeats 400000 in
theorem rHas_any (xs : List Int) (x : Int) (v : Value) (w : World) (h : Sl (Flat ints) 1 w v xs) :
    Calls Try.prog 40 #[v, .int .i64 x] w fun e w' => e = .returned (.bool (decide (x ∈ xs))) ∧ Below w.heap.size w w' := by
  obtain ⟨A, c, rfl, hc, hm, hk⟩ := h.open_
  clear h
  go_enter Try.func40, Try.ntmps40
  go_wp2
  go_loopw [5] (fun i wr => ∃ k : Nat, k ≤ xs.length ∧ i = .int .i64 k ∧ Hid (∀ j (h : j < xs.length), j < k → xs[j] ≠ x) ∧ Below w.heap.size w wr)
    (fun i _ => xs.length - (intOf i).toNat)
  case atStart => exact ⟨0, Nat.zero_le _, rfl, fun j h hj => absurd hj (by omega), Below.refl _ _⟩
  case round =>
    obtain ⟨k, hkl, rfl, HS, hb⟩ := hrel
    by_cases hlt : k < xs.length
    · obtain ⟨b, off, rfl, hat⟩ := flat_at hk (by omega)
      have hr := After.keep (int_at (rangeAt_below (hat k hlt) hb)) ⟨_, Below.refl _ _⟩
      rw [Nat.mul_one] at hr
      obtain ⟨y, hy⟩ : ∃ y, xs[k] = y := ⟨_, rfl⟩
      simp only [hy] at hr
      have HY := Lib.hid hy
      clear hat hk hy
      by_cases hyx : y = x
      · go_wp2
        go_ret
        exact ⟨by rw [decide_eq_true (p := x ∈ xs) (by rw [← hyx, ← HY.out]; exact List.getElem_mem hlt)]; rfl, hb⟩
      · go_wp2
        go_roundw
        case rel => exact ⟨k + 1, by omega, by go_num, fun j h hj => by
          by_cases e : j = k
          · subst e; rw [HY.out]; exact hyx
          · exact HS.out j h (by omega), hb⟩
        case measure => simp [intOf]; omega
    · go_wp2
      go_ret
      exact ⟨by
        rw [decide_eq_false (p := x ∈ xs) (fun hx => by
          obtain ⟨j, hj, rfl⟩ := List.getElem_of_mem hx
          exact HS.out j hj (by omega) rfl)]; rfl, hb⟩
end Go.Proofs.Ytabgmbmaakglkaa
