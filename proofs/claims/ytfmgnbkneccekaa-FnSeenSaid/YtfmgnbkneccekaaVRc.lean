/- The laws' tests of two cards and of two races of one meaning: they are true. No condition. -/
import Derived.Test.YtfmgnbkneccekaaByte
import Derived.Test.YtfmgnbkneccekaaStpJ
namespace Go.Proofs.Ytfmgnbkneccekaa
open Go Go.RowKit

set_option maxRecDepth 100000 in
set_option maxHeartbeats 4000000 in
theorem vPunches_any (xs : List Punch) (v v' : Value) (w : World) (h : Sl (Flat Punch.lst) 2 w v xs) (h' : Sl (Flat Punch.lst) 2 w v' xs) :
    Calls Try.prog 102 #[v, v'] w fun e w' => e = .returned (.bool true) ∧ Below w.heap.size w w' := by
  obtain ⟨A, c, rfl, hc, hm, hk⟩ := h.open_
  obtain ⟨A', c', rfl, hc', hm', hk'⟩ := h'.open_
  clear h h'
  go_enter Try.func102, Try.ntmps102
  go_wp2
  go_loopw [5] (fun i wr => ∃ k : Nat, k ≤ xs.length ∧ i = .int .i64 k ∧ Below w.heap.size w wr)
    (fun i _ => xs.length - (intOf i).toNat)
  case atStart => exact ⟨0, Nat.zero_le _, rfl, Below.refl _ _⟩
  case round =>
    obtain ⟨k, hkl, rfl, hb⟩ := hrel
    by_cases hlt : k < xs.length
    · obtain ⟨b, off, rfl, hat⟩ := flat_at hk (by omega)
      obtain ⟨b', off', rfl, hat'⟩ := flat_at hk' (by omega)
      have hr := rangeAt_below (hat k hlt) hb
      have hr' := rangeAt_below (hat' k hlt) hb
      generalize xs[k] = x at hr hr'
      obtain ⟨x0, x1⟩ := x
      clear hat hat' hk hk'
      go_wp2
      refine region_after (by kernel_rfl) (by kernel_rfl) ?_
      repeat (any_goals (first | go_big_quiet_step ((fail)) | (refine Punch.qloadImpl rfl _ rfl b (off + k * 2) rfl ⟨x0, x1⟩ hr ?_) | (refine Punch.qloadImpl rfl _ rfl b' (off' + k * 2) rfl ⟨x0, x1⟩ hr' ?_) | quiet_step ((fail)) | (refine wpQuiet_step (fun K hK => ?_); go_simp; split <;> (refine hK _ ?_; clear hK K))))
      all_goals (refine wpQuiet_nil ?_; intro s)
      all_goals go_wp2
      all_goals go_roundw
      case rel => exact ⟨k + 1, by omega, by go_num, step_ hb (Nat.le_refl _) s.hb⟩
      case measure => simp [intOf]; omega
    · go_wp2
      go_ret
      exact ⟨rfl, hb⟩
set_option maxHeartbeats 1000000 in
theorem vCard_any (p q : Card) (w : World) (hk : p.k = q.k) (hp : p.In w) (hq : q.In w) :
    Calls Try.prog 81 #[p.val, q.val] w fun e w' => e = .returned (.bool true) ∧ Below w.heap.size w w' := by
  obtain ⟨⟨r0, r1, r2, sp⟩, A, n, c⟩ := p
  obtain ⟨⟨r0', r1', r2', sp'⟩, A', n', c'⟩ := q
  simp only [CdK.mk.injEq] at hk
  obtain ⟨rfl, rfl, rfl, rfl⟩ := hk
  have h1 : Sl (Flat Punch.lst) 2 w (.slice A n c) sp := hp
  have h2 : Sl (Flat Punch.lst) 2 w (.slice A' n' c') sp := hq
  show Calls Try.prog 81 #[.agg #[.int .i64 r0, .int .i64 r1, .int .i64 r2, .slice A n c], .agg #[.int .i64 r0, .int .i64 r1, .int .i64 r2, .slice A' n' c']] w _
  have HC := Lib.hid (fun W (hW : Below w.heap.size w W) => vPunches_any sp _ _ W (h1.below (Flat.keeps _) hW) (h2.below (Flat.keeps _) hW))
  have hW : Below w.heap.size w ((w.alloc (.cells #[.int .i64 r0, .int .i64 r1, .int .i64 r2, .slice A n c] 73)).alloc (.cells #[.int .i64 r0, .int .i64 r1, .int .i64 r2, .slice A' n' c'] 73)) := by (repeat (first | exact Below.refl _ _ | assumption | refine Below.drew ?_ | refine Below.alloc ?_ (by first | exact Nat.le_refl _ | (simp; done) | (simp; omega)) _))
  clear hp hq h1 h2
  go_enter Try.func81, Try.ntmps81
  go_wp2_with (go_at_call 102; refine (HC.out _ hW).mono ?_; rintro e w1 ⟨rfl, hb1⟩)
  go_ret
  exact ⟨rfl, step_ hW (Nat.le_refl _) hb1⟩
theorem sum_take {xs : List Int} {k : Nat} (h : k < xs.length) : (xs.take (k + 1)).sum = (xs.take k).sum + xs[k] := by
  rw [List.take_succ_eq_append_getElem h, List.sum_append]; simp
theorem sum_small {xs : List Int} (h : ∀ x ∈ xs, 0 ≤ x ∧ x ≤ 1000) : ∀ k, 0 ≤ (xs.take k).sum ∧ (xs.take k).sum ≤ 1000 * (k : Int) := by
  intro k
  induction k with
  | zero => simp
  | succ k ih =>
    by_cases hk : k < xs.length
    · rw [sum_take hk]
      have := h _ (List.getElem_mem hk)
      omega
    · rw [List.take_of_length_le (by omega)] at *
      omega
set_option maxHeartbeats 1000000 in
theorem vSum_any (xs : List Int) (v : Value) (w : World) (h : Sl (Flat ints) 1 w v xs) (hx : ∀ x ∈ xs, 0 ≤ x ∧ x ≤ 1000) (hl : xs.length ≤ 1000) :
    Calls Try.prog 52 #[v] w fun e w' => e = .returned (.int .i64 xs.sum) ∧ Below w.heap.size w w' := by
  obtain ⟨A, c, rfl, hc, hm, hk⟩ := h.open_
  have HS := Lib.hid (sum_small hx)
  clear h hx
  go_enter Try.func52, Try.ntmps52
  go_wp2
  go_loopw [3, 4] (fun tv i wr => ∃ k : Nat, k ≤ xs.length ∧ i = .int .i64 k ∧ tv = .int .i64 (xs.take k).sum ∧ wr = w)
    (fun _ i _ => xs.length - (intOf i).toNat)
  case atStart => exact ⟨0, Nat.zero_le _, rfl, by simp, rfl⟩
  case round =>
    obtain ⟨k, hkl, rfl, rfl, rfl⟩ := hrel
    by_cases hlt : k < xs.length
    · obtain ⟨b, off, rfl, hat⟩ := flat_at hk (by omega)
      have hr := int_at (hat k hlt)
      rw [Nat.mul_one] at hr
      have HT := Lib.hid (sum_take hlt)
      have h1 := HS.out k
      have h2 := HS.out (k + 1)
      have hwr : IntKind.i64.wrap ((xs.take k).sum + xs[k]) = (xs.take k).sum + xs[k] := by rw [IntKind.wrap_i64]; have := HT.out; omega
      go_wp2
      go_roundw
      case rel => exact ⟨k + 1, by omega, by go_num, by rw [HT.out], trivial⟩
      case measure => simp [intOf]; omega
    · obtain rfl : k = xs.length := by omega
      go_wp2
      go_ret
      exact ⟨by simp, Below.refl _ _⟩
end Go.Proofs.Ytfmgnbkneccekaa
