/- NeededToLead, the program's. No condition. -/
import Derived.Test.YthhlfkeikcmnlaaNeedB
namespace Go.Proofs.Ythhlfkeikcmnlaa
open Go Go.RowKit

theorem leads_any {m : Int} {x : List Score} {r race : Int} {p : Nat} : (runsS x).any (noLead m (addS x ⟨r, race, p⟩) r) = !leadsB m x r race p := by
  unfold leadsB noLead
  induction runsS x with
  | nil => rfl
  | cons a l ih =>
    rw [List.any_cons, List.all_cons, ih]
    cases h1 : (a == r) <;> by_cases h2 : cmpStand (addS x ⟨r, race, p⟩) m r a < 0 <;> simp [bne, h1, h2] <;> omega
theorem need_ok {n m : Int} {x : List Score} {r race : Int} {k : Nat} (ha : askS n m x r = true) (hk : k ≤ 1000) : goodS n m (addS x ⟨r, race, (k : Int)⟩) = needG n m x r race := by
  unfold needG
  rw [ha, Bool.true_and, Bool.eq_iff_iff]
  exact ⟨fun h => good_points ⟨by omega, by omega⟩ ⟨by omega, by omega⟩ h, fun h => good_points ⟨by omega, by omega⟩ ⟨by omega, by omega⟩ h⟩
theorem need_at {n m : Int} {x : List Score} {r race : Int} {k : Nat} (hg : needG n m x r race = true) (hb : ∀ q, q < k → leadsB m x r race q = false) (hk : k ≤ 1000) (h : leadsB m x r race k = true) : needV n m x r race = k ∧ needB n m x r race = true := by
  have h1 : needN m x r race = k := firstT_is (by omega) hb (fun _ => h)
  have h2 : needB n m x r race = true := by simp [needB, hg, h1, hk]
  exact ⟨by simp [needV, h2, h1], h2⟩
theorem need_none {n m : Int} {x : List Score} {r race : Int} (hb : ∀ q, q < 1001 → leadsB m x r race q = false) : needV n m x r race = 0 ∧ needB n m x r race = false := by
  have h1 : needN m x r race = 1001 := firstT_is (Nat.le_refl _) hb (fun h => absurd h (by omega))
  have h2 : needB n m x r race = false := by simp [needB, h1]
  exact ⟨by simp [needV, h2], h2⟩
theorem need_bad {n m : Int} {x : List Score} {r race : Int} (hg : needG n m x r race = false) : needV n m x r race = 0 ∧ needB n m x r race = false := by
  have h2 : needB n m x r race = false := by simp [needB, hg]
  exact ⟨by simp [needV, h2], h2⟩
theorem need_unasked {n m : Int} {x : List Score} {r race : Int} (ha : askS n m x r = false) : needV n m x r race = 0 ∧ needB n m x r race = false := need_bad (by simp [needG, ha])
end Go.Proofs.Ythhlfkeikcmnlaa
