/- Plain: one more score of a runner who has one leaves the runners as they are. No condition. -/
import Derived.Test.YthhlfkeikcmnlaaNeedA
namespace Go.Proofs.Ythhlfkeikcmnlaa

theorem mem_of_ask {n m : Int} {xs : List Score} {r : Int} (h : askS n m xs r = true) : ∃ s ∈ xs, s.runner = r := by
  have h1 := (ask_iff.1 h).2
  obtain ⟨s, hs⟩ := List.exists_mem_of_length_pos h1
  have hs' : s ∈ ownS xs r := (putAll_perm _ _).mem_iff.1 hs
  have h2 := List.mem_filter.1 hs'
  exact ⟨s, h2.1, by simpa using h2.2⟩
theorem runsS_add {n m : Int} {xs : List Score} {r race p : Int} (hr : ∃ s ∈ xs, s.runner = r) (h1 : goodS n m xs = true) (h2 : goodS n m (addS xs ⟨r, race, p⟩) = true) : runsS (addS xs ⟨r, race, p⟩) = runsS xs := by
  refine asc_ext (runsS_asc h2) (runsS_asc h1) (fun a => ?_)
  rw [mem_runsS, mem_runsS]
  constructor
  · rintro ⟨s, hs, rfl⟩
    rcases List.mem_cons.1 ((addS_perm xs _).mem_iff.1 hs) with rfl | hs
    · exact hr
    · exact ⟨s, hs, rfl⟩
  · rintro ⟨s, hs, rfl⟩
    exact ⟨s, (addS_perm xs _).mem_iff.2 (List.mem_cons_of_mem _ hs), rfl⟩
end Go.Proofs.Ythhlfkeikcmnlaa
