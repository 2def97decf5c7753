/- Plain: equal neighbours struck, one element after another. No condition. -/
import Derived.Test.YtabihggfnofcbaaUniq
namespace Go.Proofs.Ytabihggfnofcbaa

theorem squeeze_cons2 (x y : Int) (l : List Int) : squeeze (x :: y :: l) = if x = y then squeeze (y :: l) else x :: squeeze (y :: l) := by rw [squeeze]
theorem squeeze_snoc : ∀ (l : List Int) (y : Int), squeeze (l ++ [y]) = if l.getLast? = some y then squeeze l else squeeze l ++ [y]
  | [], y => by simp [squeeze]
  | [x], y => by
    simp only [List.cons_append, List.nil_append, squeeze, List.getLast?_singleton, Option.some.injEq]
    split <;> simp_all
  | x :: z :: l, y => by
    have ih := squeeze_snoc (z :: l) y
    rw [List.cons_append, List.cons_append, squeeze_cons2, squeeze_cons2, ← List.cons_append, ih]
    have e : (x :: z :: l).getLast? = (z :: l).getLast? := by simp [List.getLast?_cons_cons]
    rw [e]
    by_cases h1 : x = z <;> by_cases h2 : (z :: l).getLast? = some y <;> simp [h1, h2]
theorem squeeze_take (l : List Int) (k : Nat) (h : k < l.length) : squeeze (l.take (k + 1)) = if 0 < k ∧ l[k - 1]? = some l[k] then squeeze (l.take k) else squeeze (l.take k) ++ [l[k]] := by
  rw [List.take_succ_eq_append_getElem h, squeeze_snoc]
  by_cases hk : 0 < k
  · have e : (l.take k).getLast? = l[k - 1]? := by
      rw [List.getLast?_eq_getElem?, List.length_take, Nat.min_eq_left (by omega), List.getElem?_take, if_pos (by omega)]
    rw [e]
    simp [hk]
  · obtain rfl : k = 0 := by omega
    simp
theorem squeeze_len (l : List Int) : (squeeze l).length ≤ l.length := by
  induction l with
  | nil => simp [squeeze]
  | cons x xs ih =>
    cases xs with
    | nil => simp [squeeze]
    | cons y ys =>
      rw [squeeze_cons2]
      split
      · simp only [List.length_cons] at *; omega
      · simp only [List.length_cons] at *; omega
/-- While equal neighbours are struck in place: m elements have been looked at, k of them stay at the head; from place k on the list is as it was. -/
structure Cut (l : List Int) (m k : Nat) (Y : List Int) : Prop where
  size : Y.length = l.length
  len : (squeeze (l.take m)).length = k
  lt : k < m
  low : Y.take k = squeeze (l.take m)
  high : ∀ j, k ≤ j → Y[j]? = l[j]?
theorem squeeze_all {l : List Int} {k : Nat} (h : squeeze (l.take k) = l.take k) (hk : k < l.length) (hne : 0 < k → l[k - 1]? ≠ some l[k]) : squeeze (l.take (k + 1)) = l.take (k + 1) := by
  rw [squeeze_take l k hk, if_neg (fun hh => hne hh.1 hh.2), h, ← List.take_succ_eq_append_getElem hk]
theorem Cut.start {l : List Int} {k : Nat} (h : squeeze (l.take k) = l.take k) (hk : k < l.length) (h0 : 0 < k) (he : l[k - 1]? = some l[k]) : Cut l (k + 1) k l where
  size := rfl
  len := by rw [squeeze_take l k hk, if_pos ⟨h0, he⟩, h]; simp; omega
  lt := Nat.lt_succ_self _
  low := by rw [squeeze_take l k hk, if_pos ⟨h0, he⟩, h]
  high := fun _ _ => rfl
theorem Cut.skip {l Y : List Int} {m k : Nat} (h : Cut l m k Y) (hm : m < l.length) (he : l[m - 1]? = some l[m]) : Cut l (m + 1) k Y := by
  have hs : squeeze (l.take (m + 1)) = squeeze (l.take m) := by rw [squeeze_take l m hm, if_pos ⟨by have := h.lt; omega, he⟩]
  exact ⟨h.size, by rw [hs]; exact h.len, by have := h.lt; omega, by rw [hs]; exact h.low, h.high⟩
theorem Cut.keep {l Y : List Int} {m k : Nat} (h : Cut l m k Y) (hm : m < l.length) (hne : l[m - 1]? ≠ some l[m]) : Cut l (m + 1) (k + 1) (Y.set k l[m]) := by
  have hs : squeeze (l.take (m + 1)) = squeeze (l.take m) ++ [l[m]] := by rw [squeeze_take l m hm, if_neg (fun hh => hne hh.2)]
  have hk := h.lt
  have hz := h.size
  refine ⟨by simpa using h.size, by rw [hs, List.length_append, h.len]; rfl, by omega, ?_, fun j hj => ?_⟩
  · rw [hs, ← h.low, List.take_succ_eq_append_getElem (by simp; omega), List.take_set_of_le (by omega)]
    simp
  · rw [List.getElem?_set_ne (by omega)]
    exact h.high j (by omega)
end Go.Proofs.Ytabihggfnofcbaa
