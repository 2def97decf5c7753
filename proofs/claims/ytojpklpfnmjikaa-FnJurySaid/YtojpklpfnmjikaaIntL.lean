/- Lists of integers: searches, copies. No condition. -/
import Derived.Test.YtojpklpfnmjikaaIntE
import Derived.Test.YtojpklpfnmjikaaReg
namespace Go.Proofs.Ytojpklpfnmjikaa
open Go Go.RowKit

theorem idxA_int (xs : List Int) (n : Int) : decide (0 ≤ idxA (fun y => n == y) xs) = xs.any (fun y => n == y) := idxA_any _ _
set_option maxHeartbeats 1000000 in
theorem indexInt_any (xs : List Int) (v : Value) (n : Int) (w : World) (h : Sl (Flat ints) 1 w v xs) :
    Calls Try.prog 109 #[v, .int .i64 n] w fun e w' => e = .returned (.int .i64 (idxA (fun y => n == y) xs)) ∧ w = w' := by
  obtain ⟨A, c, rfl, hc, hm, hk⟩ := h.open_
  go_enter Try.func109, Try.ntmps109
  go_wp2
  go_loop [8] (fun i => ∃ k : Nat, k ≤ xs.length ∧ i = .int .i64 k ∧ Hid (∀ j (h : j < xs.length), j < k → (n == xs[j]) = false))
    (fun i => xs.length - (intOf i).toNat)
  case atStart => exact ⟨0, Nat.zero_le _, rfl, fun j h hj => absurd hj (by omega)⟩
  case round =>
    obtain ⟨k, hkl, rfl, HS⟩ := hrel
    by_cases hlt : k < xs.length
    · obtain ⟨b, off, rfl, hat⟩ := flat_at hk (by omega)
      have hcs := int_at (hat k hlt)
      rw [Nat.mul_one] at hcs
      clear hat hk h
      by_cases hp : (n == xs[k]) = true
      · have HP := Lib.hid hp
        go_wp2
        go_ret
        exact ⟨ret_int (idxA_found hlt HP.out HS.out).symm, rfl⟩
      · have hp' : (n == xs[k]) = false := by simpa using hp
        have HP := Lib.hid hp'
        clear hp
        go_wp2
        go_round
        case rel => exact ⟨k + 1, by omega, by go_num, fun j hj hjk => by
          by_cases e : j < k
          · exact HS.out j hj e
          · obtain rfl : j = k := by omega
            exact HP.out⟩
        case measure => simp [intOf]; omega
    · go_wp2
      go_ret
      obtain rfl : k = xs.length := by omega
      exact ⟨ret_int (idxA_none fun j hj => HS.out j hj hj).symm, rfl⟩
theorem containsInt_any (xs : List Int) (v : Value) (n : Int) (w : World) (h : Sl (Flat ints) 1 w v xs) :
    Calls Try.prog 73 #[v, .int .i64 n] w fun e w' => e = .returned (.bool (xs.any (fun y => n == y))) ∧ w = w' := by
  rw [← idxA_int]
  go_enter Try.func73, Try.ntmps73
  go_wp2_with (go_at_call 109; refine (indexInt_any xs v n _ h).mono ?_; rintro e w' ⟨rfl, rfl⟩)
  go_ret
  exact ⟨rfl, rfl⟩
set_option maxHeartbeats 1000000 in
theorem l1Has_any (xs : List Int) (v : Value) (n : Int) (w : World) (h : Sl (Flat ints) 1 w v xs) :
    Calls Try.prog 72 #[v, .int .i64 n] w fun e w' => e = .returned (.bool (xs.any (fun y => n == y))) ∧ w = w' := by
  obtain ⟨A, c, rfl, hc, hm, hk⟩ := h.open_
  go_enter Try.func72, Try.ntmps72
  go_wp2
  go_loop [5] (fun i => ∃ k : Nat, k ≤ xs.length ∧ i = .int .i64 k ∧ Hid (∀ j (h : j < xs.length), j < k → (n == xs[j]) = false))
    (fun i => xs.length - (intOf i).toNat)
  case atStart => exact ⟨0, Nat.zero_le _, rfl, fun j h hj => absurd hj (by omega)⟩
  case round =>
    obtain ⟨k, hkl, rfl, HS⟩ := hrel
    by_cases hlt : k < xs.length
    · obtain ⟨b, off, rfl, hat⟩ := flat_at hk (by omega)
      have hcs := int_at (hat k hlt)
      rw [Nat.mul_one] at hcs
      clear hat hk h
      by_cases hp : xs[k] = n
      · have HP := Lib.hid hp
        have hp' : (xs[k] == n) = true := by simpa using hp
        clear hp
        go_wp2
        go_ret
        exact ⟨ret_bool (List.any_eq_true.2 ⟨_, List.getElem_mem hlt, by simp [HP.out]⟩).symm, rfl⟩
      · have hp' : (xs[k] == n) = false := by simpa using hp
        have HP := Lib.hid (show (n == xs[k]) = false by rw [beq_eq_false_iff_ne]; exact fun e => hp e.symm)
        clear hp
        go_wp2
        go_round
        case rel => exact ⟨k + 1, by omega, by go_num, fun j hj hjk => by
          by_cases e : j < k
          · exact HS.out j hj e
          · obtain rfl : j = k := by omega
            exact HP.out⟩
        case measure => simp [intOf]; omega
    · go_wp2
      go_ret
      obtain rfl : k = xs.length := by omega
      refine ⟨ret_bool ?_, rfl⟩
      symm
      rw [List.any_eq_false]
      intro x hx
      obtain ⟨j, hj, rfl⟩ := List.getElem_of_mem hx
      rw [HS.out j hj hj]
      simp
/- A row's making by append onto nothing. -/
set_option maxHeartbeats 1000000 in
theorem copyInts_any (xs : List Int) (v : Value) (w : World) (h : Sl (Flat ints) 1 w v xs) (hn : xs.length ≤ 1048577) :
    Calls Try.prog 75 #[v] w fun e w' => ∃ r, e = .returned r ∧ Row w.heap.size 3 1 w' r (xs.map ints) ∧ Below w.heap.size w w' := by
  obtain ⟨A, c, rfl, hc, hm, hk⟩ := h.open_
  have HS := Lib.hid (Src.of_sl (h.below (Flat.keeps _) (below_alloc (Below.refl _ _) (.cells #[] 3))) (fun _ => rfl) (fun x => ints_one x))
  have HN := Lib.hid (show ([] : List (List Value)).length + xs.length ≤ 2147483648 by simp; omega)
  clear hk h
  go_enter Try.func75, Try.ntmps75
  go_wp2_with (at_builtin; refine tyInt.append rfl _ _ rfl w.heap.size (.slice (some ⟨w.heap.size, 0, none⟩) 0 0) [] rfl (Row.lit_nil w _ _ (Nat.le_refl _)) _ _ _ (xs.map ints) rfl HS.out HN.out (by simp) ?_; intro r w1 row1 hg1 _)
  go_ret
  exact ⟨_, rfl, by simpa using row1, (below_alloc (Below.refl _ _) _).grown hg1 (by simp) (fun q hq => by simp [Value.ownBlock] at hq; omega)⟩
end Go.Proofs.Ytojpklpfnmjikaa
