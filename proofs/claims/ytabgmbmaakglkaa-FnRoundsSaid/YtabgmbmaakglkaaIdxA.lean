/- Plain: the first place at which a test holds; lists filtered in place. No condition. -/
import Derived.Test.YtabgmbmaakglkaaGrow
import Derived.Lib.SliceRun
namespace Go.Proofs.Ytabgmbmaakglkaa
open Go Go.RowKit

def idxA {α : Type} (p : α → Bool) (xs : List α) : Int := match xs.findIdx? p with
  | some k => k
  | none => -1
section
variable {α : Type} {p : α → Bool} {xs : List α}
theorem idxA_found {k : Nat} (hk : k < xs.length) (h : p xs[k] = true) (hb : ∀ j (h : j < xs.length), j < k → p xs[j] = false) : idxA p xs = k := by
  have : xs.findIdx? p = some k := by
    rw [List.findIdx?_eq_some_iff_getElem]
    exact ⟨hk, h, fun j hj => by rw [hb j (by omega) hj]; simp⟩
  simp [idxA, this]
theorem idxA_none (hb : ∀ j (h : j < xs.length), p xs[j] = false) : idxA p xs = -1 := by
  have : xs.findIdx? p = none := by
    rw [List.findIdx?_eq_none_iff]
    intro x hx
    obtain ⟨j, hj, rfl⟩ := List.getElem_of_mem hx
    exact hb j hj
  simp [idxA, this]
theorem idxA_cases (p : α → Bool) (xs : List α) : (idxA p xs = -1 ∧ ∀ x ∈ xs, p x = false) ∨ ∃ k, ∃ h : k < xs.length, idxA p xs = (k : Int) ∧ p xs[k] = true ∧ ∀ j (h : j < xs.length), j < k → p xs[j] = false := by
  cases hf : xs.findIdx? p with
  | none =>
    left
    refine ⟨by simp [idxA, hf], ?_⟩
    exact List.findIdx?_eq_none_iff.1 hf
  | some k =>
    right
    obtain ⟨hk, h1, h2⟩ := List.findIdx?_eq_some_iff_getElem.1 hf
    exact ⟨k, hk, by simp [idxA, hf], h1, fun j hj hjk => by simpa using h2 j hjk⟩
theorem idxA_any (p : α → Bool) (xs : List α) : decide (0 ≤ idxA p xs) = xs.any p := by
  rcases idxA_cases p xs with ⟨h, ha⟩ | ⟨k, hk, h, hp, _⟩
  · rw [h]
    have : xs.any p = false := by rw [List.any_eq_false]; intro x hx; rw [ha x hx]; simp
    rw [this]; rfl
  · rw [h]
    have : xs.any p = true := List.any_eq_true.2 ⟨_, List.getElem_mem hk, hp⟩
    rw [this]; simp
theorem filter_first {pr : α → Bool} {i : Nat} (hi : i < xs.length) (h : pr xs[i] = true) (hb : ∀ j (h : j < xs.length), j < i → pr xs[j] = false) : (xs.take (i + 1)).filter (fun x => !pr x) = xs.take i := by
  rw [List.take_succ_eq_append_getElem hi, List.filter_append]
  have h1 : (xs.take i).filter (fun x => !pr x) = xs.take i := List.filter_eq_self.2 fun x hx => by
    obtain ⟨j, hj, rfl⟩ := List.getElem_of_mem hx
    rw [List.getElem_take]
    simp at hj
    rw [hb j (by omega) (by omega)]; rfl
  rw [h1]
  simp [h]
theorem filter_step (pr : α → Bool) (xs : List α) (j : Nat) (hj : j < xs.length) : (xs.take (j + 1)).filter (fun x => !pr x) = (xs.take j).filter (fun x => !pr x) ++ if pr xs[j] = true then [] else [xs[j]] := by
  rw [List.take_succ_eq_append_getElem hj, List.filter_append]
  cases h : pr xs[j] <;> simp [h]
theorem drop_step {β : Type} {f : α → β} {Y : List β} {j : Nat} (h1 : j < Y.length) (h2 : j < xs.length) (h : Y.drop j = (xs.drop j).map f) : Y.drop (j + 1) = (xs.drop (j + 1)).map f := by
  rw [← List.drop_drop, h, ← List.map_drop, List.drop_drop]
theorem take_set_succ {β : Type} {Y : List β} {i : Nat} {y : β} (h : i < Y.length) : (Y.set i y).take (i + 1) = Y.take i ++ [y] := by
  rw [List.take_succ_eq_append_getElem (by simpa using h), List.take_set_of_le (Nat.le_refl _)]
  simp
end
theorem Sl.old {α : Type} {enc : α → List Value} {sz : Nat} {w : World} {v : Value} {xs : List α} (h : Sl (Flat enc) sz w v xs) (hl : ∀ x, (enc x).length = sz) (h1 : ∀ x, ∀ u ∈ enc x, u.oneCell' = true) :
    ∀ {A : Option Addr} {n c : Nat}, v = .slice A n c → Old w sz A n (xs.map enc) := by
  rintro A n c rfl
  exact Src.of_sl h hl h1
end Go.Proofs.Ytabgmbmaakglkaa
