/- The code handed to a law; the laws' tests of a code's length and of two int slices. No condition. -/
import Derived.Test.YtojpklpfnmjikaaCode
import Derived.Test.YtojpklpfnmjikaaInts
namespace Go.Proofs.Ytojpklpfnmjikaa
open Go Go.RowKit

theorem fitCode : Fit Try.prog (.sl 5 (.int .u8)) (.inl 44) := ⟨Try.underlying44, by kernel_rfl, by decide, Try.underlying5⟩
theorem codeS_of_holds {w : World} {v : Value} (h : Holds w (.sl 5 (.int .u8)) [v]) : ∃ m, CodeS w v m := by
  obtain ⟨A, n, c, hv, hn, hc, hk⟩ := h
  simp only [List.cons.injEq, and_true] at hv
  simp only [maxLen] at hc
  refine ⟨n, A, c, hv, hn, by omega, fun h0 => ?_⟩
  obtain ⟨b, off, hA, hat⟩ := hk h0
  refine ⟨b, off, hA, fun k hkn => ?_⟩
  obtain ⟨cs, hl, hcell, x, hx, hw⟩ := hat k hkn
  subst hx
  have h1 := hcell 0 _ rfl
  have hb : 0 ≤ x ∧ x ≤ 255 := by simpa [Lit.wf, IntKind.min, IntKind.max, IntKind.signed, IntKind.bits] using hw
  refine ⟨x, hb.1, hb.2, ?_⟩
  simpa [Sh.size] using h1
set_option maxHeartbeats 400000 in
theorem vBig_any (v : Value) (m : Nat) (q : Bool) (w : World) (h : CodeS w v m) (hq : q = decide (65536 < m)) :
    Calls Try.prog 41 #[v] w fun e w' => e = .returned (.bool q) ∧ Below w.heap.size w w' := by
  obtain ⟨A, c, rfl, hc, hm, _⟩ := h
  cases q with
  | true =>
    have hq' : 65536 < m := by simpa using hq
    clear hq
    go_enter Try.func41, Try.ntmps41
    go_wp2
    go_ret
    exact ⟨by simp; omega, Below.refl _ _⟩
  | false =>
    have hq' : ¬ 65536 < m := by simpa using hq
    clear hq
    go_enter Try.func41, Try.ntmps41
    go_wp2
    go_ret
    exact ⟨by simp; omega, Below.refl _ _⟩
set_option maxHeartbeats 400000 in
theorem vInts_refl (xs : List Int) (v v' : Value) (w : World) (h : Sl (Flat ints) 1 w v xs) (h' : Sl (Flat ints) 1 w v' xs) :
    Calls Try.prog 43 #[v, v'] w fun e w' => e = .returned (.bool true) ∧ Below w.heap.size w w' := by
  obtain ⟨A, c, rfl, hc, hm, hk⟩ := h.open_
  obtain ⟨A', c', rfl, hc', hm', hk'⟩ := h'.open_
  go_enter Try.func43, Try.ntmps43
  go_wp2
  go_loopw [5] (fun i wr => ∃ k : Nat, k ≤ xs.length ∧ i = .int .i64 k ∧ Below w.heap.size w wr)
    (fun i _ => xs.length - (intOf i).toNat)
  case atStart => exact ⟨0, Nat.zero_le _, rfl, Below.refl _ _⟩
  case round =>
    obtain ⟨k, hkl, rfl, hb⟩ := hrel
    by_cases hlt : k < xs.length
    · obtain ⟨b, off, rfl, hat⟩ := flat_at hk (by omega)
      obtain ⟨b', off', rfl, hat'⟩ := flat_at hk' (by omega)
      have hr := After.keep (int_at (rangeAt_below (hat k hlt) hb))
      have hr' := After.keep (int_at (rangeAt_below (hat' k hlt) hb))
      rw [Nat.mul_one] at hr hr'
      clear hat hat' hk hk' h h'
      go_wp2
      refine region_after (by kernel_rfl) (by kernel_rfl) ?_
      repeat (any_goals (first | go_big_quiet_step ((fail))  | quiet_step ((fail))))
      refine wpQuiet_nil ?_
      intro s
      go_wp2
      go_roundw
      case rel => exact ⟨k + 1, by omega, by go_num, step_ hb (Nat.le_refl _) s.hb⟩
      case measure => simp [intOf]; omega
    · go_wp2
      go_ret
      exact ⟨rfl, hb⟩
end Go.Proofs.Ytojpklpfnmjikaa
