/- Plain: the standings of a series. No condition. -/
import Derived.Test.YthhlfkeikcmnlaaRunQ
import Derived.Test.YthhlfkeikcmnlaaSymQ
namespace Go.Proofs.Ythhlfkeikcmnlaa

theorem cmpI_neg (x y : Int) : cmpI y x = - cmpI x y := by unfold cmpI; grind
theorem cmpL_neg : ∀ (p q : List Int), cmpL q p = - cmpL p q
  | [], [] => rfl
  | [], _ :: _ => rfl
  | _ :: _, [] => rfl
  | x :: xs, y :: ys => by
    simp only [cmpL]
    rw [cmpI_neg x y, cmpL_neg xs ys]
    by_cases h : cmpI x y = 0
    · rw [if_pos h, if_pos (by omega)]
    · rw [if_neg h, if_neg (by omega)]
theorem orI_neg (x y : Int) : orI (-x) (-y) = - orI x y := by
  unfold orI
  by_cases h : x = 0
  · rw [if_pos h, if_pos (by omega)]
  · rw [if_neg h, if_neg (by omega)]
theorem cmpL_tr : ∀ (p q r : List Int), cmpL p q ≤ 0 → cmpL q r ≤ 0 → cmpL p r ≤ 0
  | [], q, [], _, _ => by simp [cmpL]
  | [], q, _ :: _, _, _ => by simp [cmpL]
  | x :: xs, [], r, h, _ => by simp [cmpL] at h
  | x :: xs, y :: ys, [], _, h => by simp [cmpL] at h
  | x :: xs, y :: ys, z :: zs, h1, h2 => by
    have ih := cmpL_tr xs ys zs
    simp only [cmpL] at h1 h2 ⊢
    unfold cmpI at *
    grind
theorem or_le {x y t : Int} : orI (cmpI x y) t ≤ 0 ↔ x < y ∨ (x = y ∧ t ≤ 0) := by
  unfold orI cmpI
  by_cases h1 : x < y
  · simp [h1]
  · by_cases h2 : y < x
    · simp [h1, h2]; omega
    · have : x = y := by omega
      simp [this]
theorem cmpStand_cmp (xs : List Score) (m : Int) : Cmp (cmpStand xs m) where
  neg := fun a b => by
    unfold cmpStand
    rw [cmpI_neg (totS m xs b) (totS m xs a), cmpL_neg (ptsOf xs b) (ptsOf xs a), orI_neg]
  tr := fun a b c h1 h2 => by
    have h3 := cmpL_tr (ptsOf xs c) (ptsOf xs b) (ptsOf xs a)
    unfold cmpStand at *
    rw [or_le] at *
    rcases h1 with h1 | ⟨h1, h1'⟩ <;> rcases h2 with h2 | ⟨h2, h2'⟩
    · exact .inl (by omega)
    · exact .inl (by omega)
    · exact .inl (by omega)
    · exact .inr ⟨by omega, h3 h2' h1'⟩
noncomputable def stdV (n m : Int) (xs : List Score) : List Int := if goodS n m xs = true then putAll (ltC (cmpStand xs m)) (runsS xs) else []
theorem stdV_len (n m : Int) (xs : List Score) : (stdV n m xs).length ≤ 40 := by
  unfold stdV
  split
  · rename_i h
    rw [putAll_len]
    have h1 := good_len h
    have h2 := runsS_len xs
    omega
  · simp
end Go.Proofs.Ythhlfkeikcmnlaa
