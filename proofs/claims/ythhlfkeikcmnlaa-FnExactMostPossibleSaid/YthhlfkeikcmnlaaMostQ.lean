/- Plain: the races that a runner can still take part in, and the most points with them. No condition. -/
import Derived.Test.YthhlfkeikcmnlaaAsked
namespace Go.Proofs.Ythhlfkeikcmnlaa

def hasR (xs : List Score) (r race : Int) : Bool := xs.any fun s => s.runner == r && s.race == race
/-- The scores of the first k races behind h that the runner has no score of. -/
def extN (xs : List Score) (r h : Int) : Nat → List Score
  | 0 => []
  | k + 1 => extN xs r h k ++ if hasR xs r (h + 1 + k) = true then [] else [⟨r, h + 1 + k, 1000⟩]
theorem extN_runner (xs : List Score) (r h : Int) : ∀ k, ∀ s ∈ extN xs r h k, s.runner = r ∧ s.race < h + 1 + k ∧ s.points = 1000
  | 0, s, hs => by simp [extN] at hs
  | k + 1, s, hs => by
    rw [extN, List.mem_append] at hs
    rcases hs with hs | hs
    · have := extN_runner xs r h k s hs
      omega
    · by_cases e : hasR xs r (h + 1 + k) = true
      · rw [if_pos e] at hs; simp at hs
      · rw [if_neg e, List.mem_singleton] at hs
        subst hs
        exact ⟨rfl, by simp only; omega, rfl⟩
theorem extN_len (xs : List Score) (r h : Int) : ∀ k, (extN xs r h k).length ≤ k
  | 0 => by simp [extN]
  | k + 1 => by
    have := extN_len xs r h k
    rw [extN, List.length_append]
    split <;> simp <;> omega
theorem ownS_append (a b : List Score) (r : Int) : ownS (a ++ b) r = ownS a r ++ ownS b r := by simp [ownS]
theorem ownS_all {a : List Score} {r : Int} (h : ∀ s ∈ a, s.runner = r) : ownS a r = a := by
  unfold ownS
  exact List.filter_eq_self.2 fun s hs => by simpa using h s hs
theorem ofS_runner (xs : List Score) (r : Int) : ∀ s ∈ ofS xs r, s.runner = r := by
  intro s hs
  have := (putAll_perm ltP (ownS xs r)).mem_iff.1 hs
  simpa [ownS] using (List.mem_filter.1 this).2
theorem ofS_perm (xs : List Score) (r : Int) : (ofS xs r).Perm (ownS xs r) := putAll_perm ltP _
theorem ptsOf_eq {a b : List Score} {r : Int} (h : (ownS a r).Perm (ownS b r)) : ptsOf a r = ptsOf b r :=
  desc_unique (ptsOf_desc _ _) (ptsOf_desc _ _) ((ptsOf_perm a r).trans ((h.map _).trans (ptsOf_perm b r).symm))
theorem tot_ext (m : Int) (xs ex : List Score) (r : Int) : totS m (ofS xs r ++ ex) r = totS m (xs ++ ex) r := by
  unfold totS
  rw [ptsOf_eq]
  rw [ownS_append, ownS_append, ownS_all (ofS_runner xs r)]
  exact (ofS_perm xs r).append_right _
theorem any_ext (xs : List Score) (r h : Int) (k : Nat) : (ofS xs r ++ extN xs r h k).any (fun s => s.race == h + 1 + k) = hasR xs r (h + 1 + k) := by
  rw [List.any_append]
  have e2 : (extN xs r h k).any (fun s => s.race == h + 1 + k) = false := by
    rw [List.any_eq_false]
    intro s hs
    have := extN_runner xs r h k s hs
    simp; omega
  rw [e2, Bool.or_false, (ofS_perm xs r).any_eq]
  unfold ownS hasR
  rw [List.any_filter]
theorem own_ext_len {n m : Int} {xs : List Score} (h : goodS n m xs = true) (r held : Int) (k : Nat) (hk : k ≤ 8) : (ownS (ofS xs r ++ extN xs r held k) r).length ≤ 20 := by
  rw [ownS_append, List.length_append, ownS_all (ofS_runner xs r)]
  have h1 := own_len h r
  have h2 := (ofS_perm xs r).length_eq
  have h3 := extN_len xs r held k
  have h4 : (ownS (extN xs r held k) r).length ≤ (extN xs r held k).length := List.length_filter_le _ _
  omega
theorem own_ext_len' {n m : Int} {xs : List Score} (h : goodS n m xs = true) (r held : Int) (k : Nat) (hk : k ≤ 8) : (ownS (xs ++ extN xs r held k) r).length ≤ 20 := by
  rw [ownS_append, List.length_append]
  have h1 := own_len h r
  have h3 := extN_len xs r held k
  have h4 : (ownS (extN xs r held k) r).length ≤ (extN xs r held k).length := List.length_filter_le _ _
  omega
theorem small_ext {xs a : List Score} (h : Small xs) (r held : Int) (k : Nat) (ha : ∀ s ∈ a, s ∈ xs) : Small (a ++ extN xs r held k) := by
  intro s hs
  rcases List.mem_append.1 hs with hs | hs
  · exact h s (ha s hs)
  · have := extN_runner xs r held k s hs
    omega
theorem ofS_sub (xs : List Score) (r : Int) : ∀ s ∈ ofS xs r, s ∈ xs := fun s hs => (List.mem_filter.1 ((ofS_perm xs r).mem_iff.1 hs)).1
noncomputable def mostB (n m : Int) (xs : List Score) (r h : Int) : Bool := askS n m xs r && inB h 0 n
noncomputable def mostV (n m : Int) (xs : List Score) (r h : Int) : Int := if mostB n m xs r h = true then totS m (xs ++ extN xs r h (n - h).toNat) r else 0
end Go.Proofs.Ythhlfkeikcmnlaa
