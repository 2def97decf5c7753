/- Plain: insertion from the right, as the library's short sorts and the reference's loops do it. No condition. -/
import Derived.Test.YtabgmbmaakglkaaSl
namespace Go.Proofs.Ytabgmbmaakglkaa

section
variable {α : Type} (lt : α → α → Bool)
/-- Where x goes in a list when one walks down from place k while x is less. -/
def placeIn (pre : List α) (x : α) : Nat → Nat
  | 0 => 0
  | k + 1 => match pre[k]? with
    | some y => if lt x y then placeIn pre x k else k + 1
    | none => k + 1
theorem placeIn_le (pre : List α) (x : α) : ∀ k, placeIn lt pre x k ≤ k
  | 0 => Nat.le_refl _
  | k + 1 => by
    unfold placeIn
    have := placeIn_le pre x k
    split
    · split <;> omega
    · omega
/-- x put into a list from the right. -/
def putIn (pre : List α) (x : α) : List α := pre.take (placeIn lt pre x pre.length) ++ x :: pre.drop (placeIn lt pre x pre.length)
/-- A list put in order, an element after the other. -/
def putAll (xs : List α) : List α := xs.foldl (putIn lt) []
theorem putIn_len (pre : List α) (x : α) : (putIn lt pre x).length = pre.length + 1 := by
  unfold putIn
  have := placeIn_le lt pre x pre.length
  simp
  omega
theorem putAll_len (xs : List α) : (putAll lt xs).length = xs.length := by
  have h : ∀ (xs acc : List α), (xs.foldl (putIn lt) acc).length = acc.length + xs.length := by
    intro xs
    induction xs with
    | nil => intro acc; simp
    | cons x xs ih => intro acc; rw [List.foldl_cons, ih, putIn_len]; simp; omega
  simpa [putAll] using h xs []
theorem putAll_take (xs : List α) (k : Nat) (h : k < xs.length) : putAll lt (xs.take (k + 1)) = putIn lt (putAll lt (xs.take k)) xs[k] := by
  unfold putAll
  rw [List.take_succ_eq_append_getElem h, List.foldl_append]
  rfl
theorem putIn_perm (pre : List α) (x : α) : (putIn lt pre x).Perm (x :: pre) := by
  unfold putIn
  have h := List.take_append_drop (placeIn lt pre x pre.length) pre
  calc (pre.take (placeIn lt pre x pre.length) ++ x :: pre.drop (placeIn lt pre x pre.length)).Perm (x :: (pre.take (placeIn lt pre x pre.length) ++ pre.drop (placeIn lt pre x pre.length))) := List.perm_middle
    _ = (x :: pre) := by rw [h]
theorem putAll_perm (xs : List α) : (putAll lt xs).Perm xs := by
  have h : ∀ (xs acc : List α), (xs.foldl (putIn lt) acc).Perm (acc ++ xs) := by
    intro xs
    induction xs with
    | nil => intro acc; simp
    | cons x xs ih =>
      intro acc
      rw [List.foldl_cons]
      refine (ih _).trans ?_
      refine ((putIn_perm lt acc x).append_right xs).trans ?_
      simpa using (List.perm_middle (a := x) (l₁ := acc) (l₂ := xs)).symm
  simpa [putAll] using h xs []

/-- In the middle of an insertion: x stands at place j, those that were there moved up. -/
def midIn (pre rest : List α) (x : α) (j : Nat) : List α := pre.take j ++ x :: (pre.drop j ++ rest)
theorem midIn_len {pre rest : List α} {x : α} {j : Nat} (h : j ≤ pre.length) : (midIn pre rest x j).length = pre.length + 1 + rest.length := by simp [midIn]; omega
theorem midIn_at {pre rest : List α} {x : α} {j : Nat} (h : j ≤ pre.length) (hl : j < (midIn pre rest x j).length) : (midIn pre rest x j)[j] = x := by
  simp only [midIn]
  rw [List.getElem_append_right (by simp; omega)]
  simp [Nat.min_eq_left h]
theorem midIn_before {pre rest : List α} {x : α} {j : Nat} (h0 : 0 < j) (h : j ≤ pre.length) (hl : j - 1 < (midIn pre rest x j).length) : (midIn pre rest x j)[j - 1] = pre[j - 1]'(by omega) := by
  simp only [midIn]
  rw [List.getElem_append_left (by simp; omega)]
  simp
theorem midIn_swap {pre rest : List α} {x : α} {j : Nat} (h0 : 0 < j) (h : j ≤ pre.length) : ((midIn pre rest x j).set j (pre[j - 1]'(by omega))).set (j - 1) x = midIn pre rest x (j - 1) := by
  obtain ⟨i, rfl⟩ : ∃ i, j = i + 1 := ⟨j - 1, by omega⟩
  simp only [Nat.add_sub_cancel, midIn]
  rw [List.set_append_right _ _ (by simp; omega), List.take_succ_eq_append_getElem (by omega)]
  have e1 : i + 1 - (pre.take i ++ [pre[i]]).length = 0 := by simp; omega
  rw [e1, List.set_cons_zero, List.append_assoc, List.set_append_right _ _ (by simp; omega)]
  have e2 : i - (pre.take i).length = 0 := by simp; omega
  rw [e2]
  rw [show pre.drop i = pre[i] :: pre.drop (i + 1) from List.drop_eq_getElem_cons (by omega)]
  simp only [List.cons_append, List.nil_append, List.set_cons_zero]
/-- The walk down ends where 'placeIn' says. -/
theorem placeIn_from (pre : List α) (x : α) (j : Nat) : ∀ k, j ≤ k → (∀ p (h : p < pre.length), j ≤ p → p < k → lt x pre[p] = true) → k ≤ pre.length → placeIn lt pre x k = placeIn lt pre x j
  | 0, hj, _, _ => by
    obtain rfl : j = 0 := by omega
    rfl
  | k + 1, hj, hp, hk => by
    by_cases e : j = k + 1
    · subst e; rfl
    · have h1 := hp k (by omega) (by omega) (by omega)
      rw [placeIn, List.getElem?_eq_getElem (by omega)]
      simp only [h1, if_true]
      exact placeIn_from pre x j k (by omega) (fun p h h2 h3 => hp p h h2 (by omega)) (by omega)
theorem midIn_end {pre rest : List α} {x : α} {j : Nat} (h : j ≤ pre.length) (hp : ∀ p (h : p < pre.length), j ≤ p → lt x pre[p] = true) (hend : j = 0 ∨ ∃ h : j - 1 < pre.length, lt x pre[j - 1] = false) :
    midIn pre rest x j = putIn lt pre x ++ rest := by
  have e : placeIn lt pre x pre.length = j := by
    rw [placeIn_from lt pre x j pre.length h (fun p h1 h2 _ => hp p h1 h2) (Nat.le_refl _)]
    rcases hend with rfl | ⟨hl, hf⟩
    · rfl
    · cases j with
      | zero => rfl
      | succ i =>
        simp only [Nat.add_sub_cancel] at hl hf
        rw [placeIn, List.getElem?_eq_getElem hl]
        simp [hf]
  unfold midIn putIn
  rw [e]
  simp
theorem midIn_start (pre rest : List α) (x : α) : midIn pre rest x pre.length = pre ++ x :: rest := by simp [midIn]
end

/-! ### Integers: the list put in order is in order -/
def ltI (x y : Int) : Bool := decide (x < y)
theorem placeIn_spec (pre : List Int) (x : Int) (hs : pre.Pairwise (· ≤ ·)) : ∀ k, k ≤ pre.length → (∀ p (h : p < pre.length), p < placeIn ltI pre x k → pre[p] ≤ x) ∧ (∀ p (h : p < pre.length), placeIn ltI pre x k ≤ p → p < k → x < pre[p])
  | 0, _ => ⟨fun p h hp => by simp [placeIn] at hp, fun p h _ hp => absurd hp (by omega)⟩
  | k + 1, hk => by
    have ih := placeIn_spec pre x hs k (by omega)
    rw [placeIn, List.getElem?_eq_getElem (by omega)]
    simp only
    by_cases hl : x < pre[k]
    · have : ltI x pre[k] = true := by simpa [ltI] using hl
      rw [if_pos this]
      refine ⟨ih.1, fun p h h1 h2 => ?_⟩
      by_cases e : p = k
      · subst e; exact hl
      · exact ih.2 p h h1 (by omega)
    · have : ltI x pre[k] = false := by simpa [ltI] using hl
      rw [this]
      simp only [Bool.false_eq_true, if_false]
      refine ⟨fun p h hp => ?_, fun p h h1 h2 => absurd h1 (by omega)⟩
      by_cases e : p = k
      · subst e; omega
      · have := List.pairwise_iff_getElem.1 hs p k h (by omega) (by omega)
        omega
theorem putIn_sorted {pre : List Int} {x : Int} (hs : pre.Pairwise (· ≤ ·)) : (putIn ltI pre x).Pairwise (· ≤ ·) := by
  have hp := placeIn_spec pre x hs pre.length (Nat.le_refl _)
  unfold putIn
  have h12 := hs
  rw [← List.take_append_drop (placeIn ltI pre x pre.length) pre, List.pairwise_append] at h12
  rw [List.pairwise_append]
  refine ⟨h12.1, ?_, ?_⟩
  · rw [List.pairwise_cons]
    refine ⟨fun y hy => ?_, h12.2.1⟩
    obtain ⟨i, hi, rfl⟩ := List.getElem_of_mem hy
    rw [List.getElem_drop]
    have := hp.2 (placeIn ltI pre x pre.length + i) (by simp at hi; omega) (by omega) (by simp at hi; omega)
    omega
  · intro y hy z hz
    rcases List.mem_cons.1 hz with rfl | hz
    · obtain ⟨i, hi, rfl⟩ := List.getElem_of_mem hy
      rw [List.getElem_take]
      simp at hi
      exact hp.1 i (by omega) (by omega)
    · exact h12.2.2 y hy z hz
theorem putAll_sorted (xs : List Int) : (putAll ltI xs).Pairwise (· ≤ ·) := by
  have h : ∀ (xs acc : List Int), acc.Pairwise (· ≤ ·) → (xs.foldl (putIn ltI) acc).Pairwise (· ≤ ·) := by
    intro xs
    induction xs with
    | nil => intro acc h; exact h
    | cons x xs ih => intro acc h; exact ih _ (putIn_sorted h)
  exact h xs [] List.Pairwise.nil
end Go.Proofs.Ytabgmbmaakglkaa
