/- Plain: the runners of scores, equal neighbours struck; ranks. No condition. -/
import Derived.Test.YthhlfkeikcmnlaaAsked
import Derived.Test.YthhlfkeikcmnlaaSqz
namespace Go.Proofs.Ythhlfkeikcmnlaa

/-- The runners of scores. -/
def runsS (xs : List Score) : List Int := squeeze (xs.map Score.runner)
theorem runsS_len (xs : List Score) : (runsS xs).length ≤ xs.length := by
  have := squeeze_len (xs.map Score.runner)
  simpa [runsS] using this
theorem runsS_take (xs : List Score) (k : Nat) (h : k < xs.length) : runsS (xs.take (k + 1)) = if 0 < k ∧ (xs[k - 1]?).map Score.runner = some xs[k].runner then runsS (xs.take k) else runsS (xs.take k) ++ [xs[k].runner] := by
  have := squeeze_take (xs.map Score.runner) k (by simpa using h)
  unfold runsS
  rw [List.map_take, this, List.map_take]
  simp
theorem mem_runsS {xs : List Score} {r : Int} : r ∈ runsS xs ↔ ∃ s ∈ xs, s.runner = r := by
  unfold runsS
  rw [squeeze_mem, List.mem_map]
theorem good_runner {n m : Int} {xs : List Score} (h : goodS n m xs = true) : ∀ s ∈ xs, 1 ≤ s.runner ∧ s.runner ≤ 999 := by
  intro s hs
  obtain ⟨k, hk, rfl⟩ := List.getElem_of_mem hs
  have := ((goodS_iff.1 h).2.2.1 k hk).1.1
  rw [inB_iff] at this
  exact this
theorem runsS_asc {n m : Int} {xs : List Score} (h : goodS n m xs = true) : Asc (runsS xs) := by
  refine squeeze_asc ?_
  rw [List.pairwise_map]
  exact (good_lex h).imp fun {a b} hl => by unfold Lex at hl; omega
/-- How many stand before. -/
def rankS (xs : List Score) (m r : Int) (l : List Int) : Int := 1 + ((l.filter fun o => decide (cmpStand xs m o r < 0)).length : Int)
theorem rankS_step (xs : List Score) (m r : Int) (l : List Int) (k : Nat) (h : k < l.length) : rankS xs m r (l.take (k + 1)) = rankS xs m r (l.take k) + (if cmpStand xs m l[k] r < 0 then 1 else 0) := by
  unfold rankS
  rw [List.take_succ_eq_append_getElem h, List.filter_append]
  by_cases e : cmpStand xs m l[k] r < 0
  · simp [e]; omega
  · simp [e]
theorem rankS_small (xs : List Score) (m r : Int) (l : List Int) : 1 ≤ rankS xs m r l ∧ rankS xs m r l ≤ l.length + 1 := by
  unfold rankS
  have := List.length_filter_le (fun o => decide (cmpStand xs m o r < 0)) l
  omega
noncomputable def rankV (n m : Int) (xs : List Score) (r : Int) : Int := if askS n m xs r = true then rankS xs m r (runsS xs) else 0
end Go.Proofs.Ythhlfkeikcmnlaa
