/- The law's sum of legs. No condition. -/
import Derived.Test.YtojpklpfnmjikaaByte
namespace Go.Proofs.Ytojpklpfnmjikaa
open Go Go.RowKit

theorem sum_take2 {xs : List Int} {k : Nat} (h : k < xs.length) : (xs.take (k + 1)).sum = (xs.take k).sum + xs[k] := by
  rw [List.take_succ_eq_append_getElem h, List.sum_append]; simp
theorem sum_small2 {xs : List Int} (h : ∀ x ∈ xs, -100000 ≤ x ∧ x ≤ 100000) : ∀ k : Nat, -100000 * (k : Int) ≤ (xs.take k).sum ∧ (xs.take k).sum ≤ 100000 * (k : Int) := by
  intro k
  induction k with
  | zero => simp
  | succ k ih =>
    by_cases hk : k < xs.length
    · rw [sum_take2 hk]
      have := h _ (List.getElem_mem hk)
      omega
    · rw [List.take_of_length_le (by omega)] at *
      omega
set_option maxHeartbeats 1000000 in
theorem vSum_any2 (xs : List Int) (v : Value) (w : World) (h : Sl (Flat ints) 1 w v xs) (hx : ∀ x ∈ xs, -100000 ≤ x ∧ x ≤ 100000) (hl : xs.length ≤ 1000) :
    Calls Try.prog 44 #[v] w fun e w' => e = .returned (.int .i64 xs.sum) ∧ Below w.heap.size w w' := by
  obtain ⟨A, c, rfl, hc, hm, hk⟩ := h.open_
  have HS := Lib.hid (sum_small2 hx)
  clear h hx
  go_enter Try.func44, Try.ntmps44
  go_wp2
  go_loopw [3, 4] (fun tv i wr => ∃ k : Nat, k ≤ xs.length ∧ i = .int .i64 k ∧ tv = .int .i64 (xs.take k).sum ∧ wr = w)
    (fun _ i _ => xs.length - (intOf i).toNat)
  case atStart => exact ⟨0, Nat.zero_le _, rfl, by simp, rfl⟩
  case round =>
    obtain ⟨k, hkl, rfl, rfl, rfl⟩ := hrel
    by_cases hlt : k < xs.length
    · obtain ⟨b, off, rfl, hat⟩ := flat_at hk (by omega)
      have hr := int_at (hat k hlt)
      rw [Nat.mul_one] at hr
      have HT := Lib.hid (sum_take2 hlt)
      have h1 := HS.out k
      have h2 := HS.out (k + 1)
      have hwr : IntKind.i64.wrap ((xs.take k).sum + xs[k]) = (xs.take k).sum + xs[k] := by rw [IntKind.wrap_i64]; have := HT.out; omega
      go_wp2
      go_roundw
      case rel => exact ⟨k + 1, by omega, by go_num, by rw [HT.out], trivial⟩
      case measure => simp [intOf]; omega
    · obtain rfl : k = xs.length := by omega
      go_wp2
      go_ret
      exact ⟨by simp, Below.refl _ _⟩
end Go.Proofs.Ytojpklpfnmjikaa
