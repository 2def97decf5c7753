/- Plain: the points that are needed to stand alone at the head. No condition. -/
import Derived.Test.YthhlfkeikcmnlaaRunQ
import Derived.Test.YthhlfkeikcmnlaaAddScore
namespace Go.Proofs.Ythhlfkeikcmnlaa

/-- With these points the runner stands before all others. -/
noncomputable def leadsB (m : Int) (xs : List Score) (r race : Int) (p : Nat) : Bool := (runsS xs).all fun a => a == r || decide (cmpStand (addS xs ⟨r, race, p⟩) m r a < 0)
theorem leads_mono {m : Int} {xs : List Score} {r race : Int} {p q : Nat} (hpq : p ≤ q) (h : leadsB m xs r race p = true) : leadsB m xs r race q = true := by
  unfold leadsB at *
  rw [List.all_eq_true] at *
  intro a ha
  have := h a ha
  simp only [Bool.or_eq_true, beq_iff_eq, decide_eq_true_eq] at *
  rcases this with e | e
  · exact .inl e
  · by_cases hr : a = r
    · exact .inl hr
    · exact .inr (stand_mono xs m r race p q a hr (by omega) e)
/-- The first of the numbers below n at which it holds (n if there is none). -/
def firstT (f : Nat → Bool) : Nat → Nat
  | 0 => 0
  | n + 1 => if firstT f n < n then firstT f n else if f n = true then n else n + 1
theorem firstT_spec (f : Nat → Bool) : ∀ n, firstT f n ≤ n ∧ (∀ q, q < firstT f n → f q = false) ∧ (firstT f n < n → f (firstT f n) = true)
  | 0 => ⟨Nat.le_refl _, fun q h => absurd h (by simp [firstT]), fun h => absurd h (by simp [firstT])⟩
  | n + 1 => by
    obtain ⟨h1, h2, h3⟩ := firstT_spec f n
    unfold firstT
    split
    · rename_i h
      exact ⟨by omega, h2, fun _ => h3 h⟩
    · rename_i h
      have e : firstT f n = n := by omega
      rw [e] at h2
      split
      · rename_i hf
        exact ⟨by omega, h2, fun _ => hf⟩
      · rename_i hf
        refine ⟨Nat.le_refl _, fun q hq => ?_, fun h => absurd h (by omega)⟩
        by_cases eq : q = n
        · subst eq; simpa using hf
        · exact h2 q (by omega)
theorem firstT_is {f : Nat → Bool} {n k : Nat} (hk : k ≤ n) (h1 : ∀ q, q < k → f q = false) (h2 : k < n → f k = true) : firstT f n = k := by
  obtain ⟨a, b, c⟩ := firstT_spec f n
  rcases Nat.lt_trichotomy (firstT f n) k with h | h | h
  · have := c (by omega); rw [h1 _ h] at this; cases this
  · exact h
  · have := b k h; rw [h2 (by omega)] at this; cases this
noncomputable def needN (m : Int) (xs : List Score) (r race : Int) : Nat := firstT (leadsB m xs r race) 1001
noncomputable def needG (n m : Int) (xs : List Score) (r race : Int) : Bool := askS n m xs r && goodS n m (addS xs ⟨r, race, 0⟩)
noncomputable def needB (n m : Int) (xs : List Score) (r race : Int) : Bool := needG n m xs r race && decide (needN m xs r race ≤ 1000)
noncomputable def needV (n m : Int) (xs : List Score) (r race : Int) : Int := if needB n m xs r race = true then needN m xs r race else 0
theorem addAt_points (xs : List Score) (r race p q : Int) : addAt xs ⟨r, race, p⟩ = addAt xs ⟨r, race, q⟩ := rfl
theorem insAt_get {α : Type} (xs : List α) (i : Nat) (x : α) (hi : i ≤ xs.length) (k : Nat) : (insAt xs i x)[k]? = if k < i then xs[k]? else if k = i then some x else xs[k - 1]? := by
  unfold insAt
  have hl : (xs.take i).length = i := by simp; omega
  by_cases h1 : k < i
  · rw [List.getElem?_append_left (by omega), List.getElem?_take, if_pos h1, if_pos h1]
  · rw [List.getElem?_append_right (by omega), hl, if_neg h1]
    by_cases h2 : k = i
    · subst h2; simp
    · rw [if_neg h2]
      obtain ⟨j, hj⟩ : ∃ j, k - i = j + 1 := ⟨k - i - 1, by omega⟩
      rw [hj, List.getElem?_cons_succ, List.getElem?_drop]
      congr 1
      omega
/-- Whether the list with one more score is valid does not hang on the points, within bounds. -/
theorem good_points {n m : Int} {xs : List Score} {r race p q : Int} (hp : 0 ≤ p ∧ p ≤ 1000) (hq : 0 ≤ q ∧ q ≤ 1000) (h : goodS n m (addS xs ⟨r, race, p⟩) = true) : goodS n m (addS xs ⟨r, race, q⟩) = true := by
  rw [goodS_iff] at *
  obtain ⟨h1, h2, h3, h4⟩ := h
  have hl : (addS xs ⟨r, race, p⟩).length = (addS xs ⟨r, race, q⟩).length := by
    rw [(addS_perm xs _).length_eq, (addS_perm xs _).length_eq]; simp
  have hle := addAt_le xs ⟨r, race, p⟩
  have hg : ∀ k (hk : k < (addS xs ⟨r, race, p⟩).length) (hk' : k < (addS xs ⟨r, race, q⟩).length), (addS xs ⟨r, race, p⟩)[k].runner = (addS xs ⟨r, race, q⟩)[k].runner ∧ (addS xs ⟨r, race, p⟩)[k].race = (addS xs ⟨r, race, q⟩)[k].race ∧ (inB (addS xs ⟨r, race, p⟩)[k].points 0 1000 = true → inB (addS xs ⟨r, race, q⟩)[k].points 0 1000 = true) := by
    intro k hk hk'
    have f1 : (if k < addAt xs ⟨r, race, p⟩ then xs[k]? else if k = addAt xs ⟨r, race, p⟩ then some ⟨r, race, p⟩ else xs[k - 1]?) = some (addS xs ⟨r, race, p⟩)[k] :=
      (insAt_get xs (addAt xs ⟨r, race, p⟩) ⟨r, race, p⟩ hle k).symm.trans (List.getElem?_eq_getElem hk)
    have f2' : (if k < addAt xs ⟨r, race, p⟩ then xs[k]? else if k = addAt xs ⟨r, race, p⟩ then some ⟨r, race, q⟩ else xs[k - 1]?) = some (addS xs ⟨r, race, q⟩)[k] :=
      (insAt_get xs (addAt xs ⟨r, race, p⟩) ⟨r, race, q⟩ hle k).symm.trans (List.getElem?_eq_getElem hk')
    generalize (addS xs ⟨r, race, p⟩)[k] = a at *
    generalize (addS xs ⟨r, race, q⟩)[k] = b at *
    split at f1
    · rename_i hh
      rw [if_pos hh] at f2'
      rw [f1] at f2'
      have : a = b := by simpa using f2'
      subst this
      exact ⟨rfl, rfl, id⟩
    · rename_i hh
      rw [if_neg hh] at f2'
      split at f1
      · rename_i hh2
        rw [if_pos hh2] at f2'
        obtain rfl : (⟨r, race, p⟩ : Score) = a := by simpa using f1
        obtain rfl : (⟨r, race, q⟩ : Score) = b := by simpa using f2'
        exact ⟨rfl, rfl, fun _ => by rw [inB_iff]; exact hq⟩
      · rename_i hh2
        rw [if_neg hh2] at f2'
        rw [f1] at f2'
        have : a = b := by simpa using f2'
        subst this
        exact ⟨rfl, rfl, id⟩
  refine ⟨h1, h2, fun k hk => ?_, by omega⟩
  have hk0 : k < (addS xs ⟨r, race, p⟩).length := by omega
  obtain ⟨g1, g2, g3⟩ := hg k hk0 hk
  obtain ⟨⟨a1, a2, a3⟩, a4⟩ := h3 k hk0
  refine ⟨⟨by rw [← g1]; exact a1, by rw [← g2]; exact a2, g3 a3⟩, fun h0 => ?_⟩
  have hk1 : k - 1 < (addS xs ⟨r, race, p⟩).length := by omega
  obtain ⟨b1, b2, _⟩ := hg (k - 1) hk1 (by omega)
  have := a4 h0
  rw [g1, g2, b1, b2] at this
  exact this
end Go.Proofs.Ythhlfkeikcmnlaa
