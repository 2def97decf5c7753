/- The walk of slices.Sort on at most twelve integers. -/
import Derived.Test.YthhlfkeikcmnlaaZSortI
namespace Go.Proofs.Ythhlfkeikcmnlaa
open Go Go.RowKit

def AnInt (w : World) (e : Ending) (w' : World) : Prop := ∃ r : Int, e = .returned (.int .i64 r) ∧ w = w'
set_option maxRecDepth 100000 in
set_option maxHeartbeats 1000000 in
theorem len64_any (n : Int) (h0 : 0 ≤ n) (h : n ≤ 12) (w : World) : Calls Try.prog 119 #[.int .u64 n] w (AnInt w) := by
  go_enter Try.func119, Try.ntmps119
  go_wp2
  go_ret
  exact ⟨_, rfl, rfl⟩

theorem len_any (n : Int) (h0 : 0 ≤ n) (h : n ≤ 12) (w : World) : Calls Try.prog 101 #[.int .u64 n] w (AnInt w) := by
  go_enter Try.func101, Try.ntmps101
  go_wp2_with (go_at_call 119; refine (len64_any _ h0 h _).mono ?_; rintro e w' ⟨r, rfl, rfl⟩)
  go_ret
  exact ⟨_, rfl, rfl⟩

set_option maxRecDepth 100000 in
set_option maxHeartbeats 2000000 in
theorem pdq_any (base g n cap : Nat) (xs : List Int) (lim : Int) (w : World) (hrow : Row base 3 1 w (.slice (some ⟨g, 0, none⟩) n cap) (xs.map ints)) (hn : n = xs.length) (hc : cap ≤ 9223372036854775807) (h12 : n ≤ 12) :
    Calls Try.prog 100 #[.slice (some ⟨g, 0, none⟩) n cap, .int .i64 0, .int .i64 n, .int .i64 lim] w fun e w' => e = .returned (.tuple #[]) ∧ Row base 3 1 w' (.slice (some ⟨g, 0, none⟩) n cap) ((putAll ltI xs).map ints) ∧ w.grownBy w' (some g) := by
  subst hn
  go_enter Try.func100, Try.ntmps100
  go_wp2_with fail
  refine wp_loop_rounds 1 ?_
  rw [rounds_succ]
  go_wp2_with (go_at_call 109; refine (insertion_any base g _ cap xs _ hrow rfl hc).mono ?_; rintro e w1 ⟨rfl, row1, hg1⟩)
  exact bodyPost_ret (results_none rfl _ _ _) rfl ⟨rfl, row1, hg1⟩

theorem sort_any (base g n cap : Nat) (xs : List Int) (w : World) (hrow : Row base 3 1 w (.slice (some ⟨g, 0, none⟩) n cap) (xs.map ints)) (hn : n = xs.length) (hc : cap ≤ 9223372036854775807) (h12 : n ≤ 12) :
    Calls Try.prog 78 #[.slice (some ⟨g, 0, none⟩) n cap] w fun e w' => e = .returned (.tuple #[]) ∧ Row base 3 1 w' (.slice (some ⟨g, 0, none⟩) n cap) ((putAll ltI xs).map ints) ∧ w.grownBy w' (some g) := by
  subst hn
  go_enter Try.func78, Try.ntmps78
  go_wp2_with (first
    | (go_at_call 101; refine (len_any _ (by omega) (by omega) _).mono ?_; rintro e w' ⟨r, rfl, rfl⟩)
    | (go_at_call 100; refine (pdq_any base g _ cap xs _ _ hrow rfl hc h12).mono ?_; rintro e w1 ⟨rfl, row1, hg1⟩))
  go_end0
  exact ⟨rfl, row1, hg1⟩
end Go.Proofs.Ythhlfkeikcmnlaa
