/- Lists of integers: searches, copies. No condition. -/
import Derived.Test.YtabgmbmaakglkaaIntE
import Derived.Test.YtabgmbmaakglkaaReg
namespace Go.Proofs.Ytabgmbmaakglkaa
open Go Go.RowKit

theorem idxA_int (xs : List Int) (n : Int) : decide (0 ≤ idxA (fun y => n == y) xs) = xs.any (fun y => n == y) := idxA_any _ _
set_option maxHeartbeats 1000000 in
theorem indexInt_any (xs : List Int) (v : Value) (n : Int) (w : World) (h : Sl (Flat ints) 1 w v xs) :
    Calls Try.prog 73 #[v, .int .i64 n] w fun e w' => e = .returned (.int .i64 (idxA (fun y => n == y) xs)) ∧ w = w' := by
  obtain ⟨A, c, rfl, hc, hm, hk⟩ := h.open_
  go_enter Try.func73, Try.ntmps73
  go_wp2
  go_loop [8] (fun i => ∃ k : Nat, k ≤ xs.length ∧ i = .int .i64 k ∧ Hid (∀ j (h : j < xs.length), j < k → (n == xs[j]) = false))
    (fun i => xs.length - (intOf i).toNat)
  case atStart => exact ⟨0, Nat.zero_le _, rfl, fun j h hj => absurd hj (by omega)⟩
  case round =>
    obtain ⟨k, hkl, rfl, HS⟩ := hrel
    by_cases hlt : k < xs.length
    · obtain ⟨b, off, rfl, hat⟩ := flat_at hk (by omega)
      have hcs := int_at (hat k hlt)
      rw [Nat.mul_one] at hcs
      clear hat hk h
      by_cases hp : (n == xs[k]) = true
      · have HP := Lib.hid hp
        go_wp2
        go_ret
        exact ⟨ret_int (idxA_found hlt HP.out HS.out).symm, rfl⟩
      · have hp' : (n == xs[k]) = false := by simpa using hp
        have HP := Lib.hid hp'
        clear hp
        go_wp2
        go_round
        case rel => exact ⟨k + 1, by omega, by go_num, fun j hj hjk => by
          by_cases e : j < k
          · exact HS.out j hj e
          · obtain rfl : j = k := by omega
            exact HP.out⟩
        case measure => simp [intOf]; omega
    · go_wp2
      go_ret
      obtain rfl : k = xs.length := by omega
      exact ⟨ret_int (idxA_none fun j hj => HS.out j hj hj).symm, rfl⟩
theorem containsInt_any (xs : List Int) (v : Value) (n : Int) (w : World) (h : Sl (Flat ints) 1 w v xs) :
    Calls Try.prog 72 #[v, .int .i64 n] w fun e w' => e = .returned (.bool (xs.any (fun y => n == y))) ∧ w = w' := by
  rw [← idxA_int]
  go_enter Try.func72, Try.ntmps72
  go_wp2_with (go_at_call 73; refine (indexInt_any xs v n _ h).mono ?_; rintro e w' ⟨rfl, rfl⟩)
  go_ret
  exact ⟨rfl, rfl⟩
set_option maxHeartbeats 1000000 in
theorem l1Has_any (xs : List Int) (v : Value) (n : Int) (w : World) (h : Sl (Flat ints) 1 w v xs) :
    Calls Try.prog 81 #[v, .int .i64 n] w fun e w' => e = .returned (.bool (xs.any (fun y => n == y))) ∧ w = w' := by
  obtain ⟨A, c, rfl, hc, hm, hk⟩ := h.open_
  go_enter Try.func81, Try.ntmps81
  go_wp2
  go_loop [5] (fun i => ∃ k : Nat, k ≤ xs.length ∧ i = .int .i64 k ∧ Hid (∀ j (h : j < xs.length), j < k → (n == xs[j]) = false))
    (fun i => xs.length - (intOf i).toNat)
  case atStart => exact ⟨0, Nat.zero_le _, rfl, fun j h hj => absurd hj (by omega)⟩
  case round =>
    obtain ⟨k, hkl, rfl, HS⟩ := hrel
    by_cases hlt : k < xs.length
    · obtain ⟨b, off, rfl, hat⟩ := flat_at hk (by omega)
      have hcs := int_at (hat k hlt)
      rw [Nat.mul_one] at hcs
      clear hat hk h
      by_cases hp : xs[k] = n
      · have HP := Lib.hid hp
        have hp' : (xs[k] == n) = true := by simpa using hp
        clear hp
        go_wp2
        go_ret
        exact ⟨ret_bool (List.any_eq_true.2 ⟨_, List.getElem_mem hlt, by simp [HP.out]⟩).symm, rfl⟩
      · have hp' : (xs[k] == n) = false := by simpa using hp
        have HP := Lib.hid (show (n == xs[k]) = false by rw [beq_eq_false_iff_ne]; exact fun e => hp e.symm)
        clear hp
        go_wp2
        go_round
        case rel => exact ⟨k + 1, by omega, by go_num, fun j hj hjk => by
          by_cases e : j < k
          · exact HS.out j hj e
          · obtain rfl : j = k := by omega
            exact HP.out⟩
        case measure => simp [intOf]; omega
    · go_wp2
      go_ret
      obtain rfl : k = xs.length := by omega
      refine ⟨ret_bool ?_, rfl⟩
      symm
      rw [List.any_eq_false]
      intro x hx
      obtain ⟨j, hj, rfl⟩ := List.getElem_of_mem hx
      rw [HS.out j hj hj]
      simp
/- A row's making by append onto nothing. -/
end Go.Proofs.Ytabgmbmaakglkaa
