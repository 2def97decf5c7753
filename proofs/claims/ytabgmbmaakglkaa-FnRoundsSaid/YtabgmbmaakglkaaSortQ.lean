/- Plain: insertion from the right leaves a list in order, whatever the order. No condition. -/
import Derived.Test.YtabgmbmaakglkaaSortP
namespace Go.Proofs.Ytabgmbmaakglkaa
section
variable {α : Type} {lt : α → α → Bool}
/-- What makes 'less' an order up to ties. -/
structure Ord (lt : α → α → Bool) : Prop where
  anti : ∀ x y, lt x y = true → lt y x = false
  trans : ∀ x y z, lt y x = false → lt z y = false → lt z x = false
theorem placeIn_rest (O : Ord lt) (pre : List α) (x : α) (hs : pre.Pairwise fun a b => lt b a = false) : ∀ k, k ≤ pre.length → (∀ p (h : p < pre.length), p < placeIn lt pre x k → lt x pre[p] = false) ∧ (∀ p (h : p < pre.length), placeIn lt pre x k ≤ p → p < k → lt x pre[p] = true)
  | 0, _ => ⟨fun p h hp => by simp [placeIn] at hp, fun p h _ hp => absurd hp (by omega)⟩
  | k + 1, hk => by
    have ih := placeIn_rest O pre x hs k (by omega)
    rw [placeIn, List.getElem?_eq_getElem (by omega)]
    simp only
    cases hl : lt x pre[k] with
    | true =>
      simp only [if_true]
      refine ⟨ih.1, fun p h h1 h2 => ?_⟩
      by_cases e : p = k
      · subst e; exact hl
      · exact ih.2 p h h1 (by omega)
    | false =>
      simp only [Bool.false_eq_true, if_false]
      refine ⟨fun p h hp => ?_, fun p h h1 h2 => absurd h1 (by omega)⟩
      by_cases e : p = k
      · subst e; exact hl
      · have := List.pairwise_iff_getElem.1 hs p k h (by omega) (by omega)
        exact O.trans _ _ _ this hl
theorem putIn_ordered (O : Ord lt) {pre : List α} {x : α} (hs : pre.Pairwise fun a b => lt b a = false) : (putIn lt pre x).Pairwise fun a b => lt b a = false := by
  have hp := placeIn_rest O pre x hs pre.length (Nat.le_refl _)
  unfold putIn
  have h12 := hs
  rw [← List.take_append_drop (placeIn lt pre x pre.length) pre, List.pairwise_append] at h12
  rw [List.pairwise_append]
  refine ⟨h12.1, ?_, ?_⟩
  · rw [List.pairwise_cons]
    refine ⟨fun y hy => ?_, h12.2.1⟩
    obtain ⟨i, hi, rfl⟩ := List.getElem_of_mem hy
    rw [List.getElem_drop]
    exact O.anti _ _ (hp.2 (placeIn lt pre x pre.length + i) (by simp at hi; omega) (by omega) (by simp at hi; omega))
  · intro y hy z hz
    rcases List.mem_cons.1 hz with rfl | hz
    · obtain ⟨i, hi, rfl⟩ := List.getElem_of_mem hy
      rw [List.getElem_take]
      simp at hi
      exact hp.1 i (by omega) (by omega)
    · exact h12.2.2 y hy z hz
theorem putAll_ordered (O : Ord lt) (xs : List α) : (putAll lt xs).Pairwise fun a b => lt b a = false := by
  have h : ∀ (xs acc : List α), (acc.Pairwise fun a b => lt b a = false) → (xs.foldl (putIn lt) acc).Pairwise fun a b => lt b a = false := by
    intro xs
    induction xs with
    | nil => intro acc h; exact h
    | cons x xs ih => intro acc h; exact ih _ (putIn_ordered O h)
  exact h xs [] List.Pairwise.nil
/-- Walking down in an ordered list: the place does not move where everything is in order already. -/
theorem placeIn_top {pre : List α} {x : α} : ∀ k, (∀ h : k - 1 < pre.length, 0 < k → lt x pre[k - 1] = false) → k ≤ pre.length → placeIn lt pre x k = k
  | 0, _, _ => rfl
  | k + 1, h, hk => by
    have := h (by omega) (by omega)
    rw [placeIn, List.getElem?_eq_getElem (by omega)]
    simp only [Nat.add_sub_cancel] at this
    simp [this]
theorem putIn_top {pre : List α} {x : α} (h : ∀ y ∈ pre, lt x y = false) : putIn lt pre x = pre ++ [x] := by
  unfold putIn
  rw [placeIn_top _ (fun h' _ => h _ (List.getElem_mem _)) (Nat.le_refl _)]
  simp
/-- A list in order stays as it is. -/
theorem putAll_id {xs : List α} (hs : xs.Pairwise fun a b => lt b a = false) : putAll lt xs = xs := by
  have h : ∀ (xs acc : List α), ((acc ++ xs).Pairwise fun a b => lt b a = false) → xs.foldl (putIn lt) acc = acc ++ xs := by
    intro xs
    induction xs with
    | nil => intro acc h; simp
    | cons x xs ih =>
      intro acc h
      rw [List.foldl_cons, putIn_top (fun y hy => (List.pairwise_append.1 h).2.2 y hy x (by simp)), ih _ (by simpa using h)]
      simp
  have := h xs [] (by simpa using hs)
  simpa [putAll] using this
theorem putAll_append (xs ys : List α) : putAll lt (xs ++ ys) = ys.foldl (putIn lt) (putAll lt xs) := by simp [putAll, List.foldl_append]
end
theorem placeIn_is {α : Type} (lt : α → α → Bool) {pre : List α} {x : α} {j : Nat} (h : j ≤ pre.length) (hp : ∀ p (h : p < pre.length), j ≤ p → lt x pre[p] = true) (hend : j = 0 ∨ ∃ h : j - 1 < pre.length, lt x pre[j - 1] = false) : placeIn lt pre x pre.length = j := by
  rw [placeIn_from lt pre x j pre.length h (fun p h1 h2 _ => hp p h1 h2) (Nat.le_refl _)]
  rcases hend with rfl | ⟨hl, hf⟩
  · rfl
  · cases j with
    | zero => rfl
    | succ i =>
      simp only [Nat.add_sub_cancel] at hl hf
      rw [placeIn, List.getElem?_eq_getElem hl]
      simp [hf]
theorem midIn_swap_map {α β : Type} (f : α → β) (P0 pre rest : List α) (x : α) {a j : Nat} (h0 : 0 < j) (h : j ≤ pre.length) (ha : a = P0.length) :
    (((P0 ++ midIn pre rest x j).map f).set (a + j) (f (pre[j - 1]'(by omega)))).set (a + (j - 1)) (f x) = (P0 ++ midIn pre rest x (j - 1)).map f := by
  rw [← List.map_set, ← List.map_set, List.set_append_right _ _ (by omega), List.set_append_right _ _ (by omega)]
  have e1 : a + j - P0.length = j := by omega
  have e2 : a + (j - 1) - P0.length = j - 1 := by omega
  rw [e1, e2, midIn_swap h0 h]
/-- Less by a comparison. -/
def ltC {α : Type} (cf : α → α → Int) (x y : α) : Bool := decide (cf x y < 0)
end Go.Proofs.Ytabgmbmaakglkaa
