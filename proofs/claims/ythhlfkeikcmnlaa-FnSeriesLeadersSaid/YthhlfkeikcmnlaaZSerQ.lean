/- Plain: lists of points in descending order, how they compare, and what one more score does. No condition. -/
import Derived.Test.YthhlfkeikcmnlaaZScoreA
import Derived.Test.YthhlfkeikcmnlaaZLibSqz
namespace Go.Proofs.Ythhlfkeikcmnlaa


/-- The library's comparison of two lists of numbers. -/
def cmpL : List Int → List Int → Int
  | [], [] => 0
  | [], _ :: _ => -1
  | _ :: _, [] => 1
  | x :: xs, y :: ys => if cmpI x y = 0 then cmpL xs ys else cmpI x y
/-- Element by element at most. -/
def LeL : List Int → List Int → Prop
  | [], [] => True
  | x :: xs, y :: ys => x ≤ y ∧ LeL xs ys
  | _, _ => False
theorem LeL.refl : ∀ xs, LeL xs xs
  | [] => trivial
  | _ :: xs => ⟨Int.le_refl _, LeL.refl xs⟩
theorem cmpL_mono : ∀ {p p' q : List Int}, LeL p p' → cmpL q p < 0 → cmpL q p' < 0
  | [], [], q, _, h => h
  | x :: xs, y :: ys, [], _, _ => by simp [cmpL]
  | x :: xs, y :: ys, z :: zs, ⟨h1, h2⟩, h => by
    simp only [cmpL] at h ⊢
    have ih := @cmpL_mono xs ys zs h2
    unfold cmpI at h ⊢
    grind
  | [], y :: ys, _, h, _ => h.elim
  | x :: xs, [], _, h, _ => h.elim
/-- One more number in a descending list, behind those that are not less. -/
def insD (p : Int) : List Int → List Int
  | [] => [p]
  | x :: xs => if x < p then p :: x :: xs else x :: insD p xs
theorem LeL_shift {p : Int} : ∀ {xs : List Int}, xs.Pairwise (· ≥ ·) → (∀ x ∈ xs, x ≤ p) → LeL (insD p xs) (p :: xs)
  | [], _, _ => ⟨Int.le_refl _, trivial⟩
  | x :: xs, hs, hb => by
    unfold insD
    split
    · exact LeL.refl _
    · rename_i hx
      have := hb x (by simp)
      have e : x = p := by omega
      subst e
      rw [List.pairwise_cons] at hs
      exact ⟨Int.le_refl _, LeL_shift hs.2 (fun y hy => hs.1 y hy)⟩
theorem LeL_push {p q : Int} (h : p ≤ q) : ∀ {xs : List Int}, xs.Pairwise (· ≥ ·) → (∀ x ∈ xs, x ≤ q) → LeL (insD p xs) (q :: xs)
  | [], _, _ => ⟨h, trivial⟩
  | x :: xs, hs, hb => by
    unfold insD
    have hx := hb x (by simp)
    rw [List.pairwise_cons] at hs
    split
    · exact ⟨h, LeL.refl _⟩
    · refine ⟨hx, ?_⟩
      exact LeL_push (by omega) hs.2 (fun y hy => hs.1 y hy)
theorem insD_mono {p q : Int} (h : p ≤ q) : ∀ {xs : List Int}, xs.Pairwise (· ≥ ·) → LeL (insD p xs) (insD q xs)
  | [], _ => ⟨h, trivial⟩
  | x :: xs, hs => by
    have hs' := List.pairwise_cons.1 hs
    unfold insD
    by_cases h1 : x < p
    · rw [if_pos h1, if_pos (by omega)]; exact ⟨h, LeL.refl _⟩
    · rw [if_neg h1]
      by_cases h2 : x < q
      · rw [if_pos h2]
        exact ⟨by omega, LeL_push (by omega) hs'.2 (fun y hy => hs'.1 y hy)⟩
      · rw [if_neg h2]
        exact ⟨Int.le_refl _, insD_mono h hs'.2⟩
theorem LeL_take : ∀ {xs ys : List Int} (n : Nat), LeL xs ys → LeL (xs.take n) (ys.take n)
  | [], [], n, _ => by simp [LeL]
  | x :: xs, y :: ys, 0, _ => by simp [LeL]
  | x :: xs, y :: ys, n + 1, ⟨h1, h2⟩ => ⟨h1, LeL_take n h2⟩
  | [], y :: ys, _, h => h.elim
  | x :: xs, [], _, h => h.elim
theorem LeL_sum : ∀ {xs ys : List Int}, LeL xs ys → xs.sum ≤ ys.sum
  | [], [], _ => Int.le_refl _
  | x :: xs, y :: ys, ⟨h1, h2⟩ => by have := LeL_sum h2; simp; omega
  | [], y :: ys, h => h.elim
  | x :: xs, [], h => h.elim
def insAt {α : Type} (xs : List α) (i : Nat) (x : α) : List α := xs.take i ++ x :: xs.drop i
/-! ### The scores of a runner -/
def ltP (a b : Score) : Bool := decide (b.points < a.points)
theorem ordP : Ord ltP := ⟨fun x y h => by simp [ltP] at *; omega, fun x y z h1 h2 => by simp [ltP] at *; omega⟩
def ownS (xs : List Score) (r : Int) : List Score := xs.filter fun s => s.runner == r
def ofS (xs : List Score) (r : Int) : List Score := putAll ltP (ownS xs r)
def ptsOf (xs : List Score) (r : Int) : List Int := (ofS xs r).map Score.points
abbrev Desc (l : List Int) : Prop := l.Pairwise (· ≥ ·)
theorem desc_unique {l1 l2 : List Int} (h1 : Desc l1) (h2 : Desc l2) (hp : l1.Perm l2) : l1 = l2 :=
  List.Perm.eq_of_pairwise (fun a b _ _ h h' => by omega) h1 h2 hp
theorem ptsOf_desc (xs : List Score) (r : Int) : Desc (ptsOf xs r) := by
  unfold ptsOf Desc
  rw [List.pairwise_map]
  exact (putAll_ordered ordP (ownS xs r)).imp fun {a b} h => by simp [ltP] at h; omega
theorem ptsOf_perm (xs : List Score) (r : Int) : (ptsOf xs r).Perm ((ownS xs r).map Score.points) := (putAll_perm ltP _).map _
def sumTop (best : Int) (l : List Int) : Int := (l.take best.toNat).sum
def totS (best : Int) (xs : List Score) (r : Int) : Int := sumTop best (ptsOf xs r)
/-- How two runners stand: negative where the first stands before. -/
def cmpStand (xs : List Score) (best a b : Int) : Int := orI (cmpI (totS best xs b) (totS best xs a)) (cmpL (ptsOf xs b) (ptsOf xs a))
theorem insD_perm (p : Int) (l : List Int) : (insD p l).Perm (p :: l) := by
  induction l with
  | nil => exact List.Perm.refl _
  | cons x xs ih =>
    unfold insD
    split
    · exact List.Perm.refl _
    · exact (ih.cons x).trans (List.Perm.swap p x xs)
theorem insD_desc {p : Int} {l : List Int} (h : Desc l) : Desc (insD p l) := by
  induction l with
  | nil => simp [insD, Desc]
  | cons x xs ih =>
    have h' := List.pairwise_cons.1 h
    unfold insD
    split
    · refine List.pairwise_cons.2 ⟨fun y hy => ?_, h⟩
      rcases List.mem_cons.1 hy with rfl | hy
      · omega
      · have := h'.1 y hy; omega
    · refine List.pairwise_cons.2 ⟨fun y hy => ?_, ih h'.2⟩
      rcases List.mem_cons.1 ((insD_perm p xs).mem_iff.1 hy) with rfl | hy
      · omega
      · exact h'.1 y hy
/-- The list with one more score in its place. -/
def addAt (xs : List Score) (s : Score) : Nat := (xs.takeWhile fun t => decide (cmpS t s < 0)).length
def addS (xs : List Score) (s : Score) : List Score := insAt xs (addAt xs s) s
theorem addAt_le (xs : List Score) (s : Score) : addAt xs s ≤ xs.length := List.Sublist.length_le (List.takeWhile_sublist _)
theorem addS_perm (xs : List Score) (s : Score) : (addS xs s).Perm (s :: xs) := by
  unfold addS insAt
  refine List.perm_middle.trans ?_
  rw [List.take_append_drop]
theorem own_other (xs : List Score) (s : Score) (r : Int) (h : s.runner ≠ r) : ownS (addS xs s) r = ownS xs r := by
  unfold ownS addS insAt
  rw [List.filter_append, List.filter_cons_of_neg (by simpa using h), ← List.filter_append, List.take_append_drop]
theorem pts_other (xs : List Score) (s : Score) (r : Int) (h : s.runner ≠ r) : ptsOf (addS xs s) r = ptsOf xs r := by
  unfold ptsOf ofS
  rw [own_other xs s r h]
theorem pts_same (xs : List Score) (s : Score) : ptsOf (addS xs s) s.runner = insD s.points (ptsOf xs s.runner) := by
  refine desc_unique (ptsOf_desc _ _) (insD_desc (ptsOf_desc _ _)) ?_
  refine (ptsOf_perm _ _).trans ?_
  refine List.Perm.trans ?_ (insD_perm _ _).symm
  have h : (ownS (addS xs s) s.runner).Perm (s :: ownS xs s.runner) := by
    have := (addS_perm xs s).filter (fun t => t.runner == s.runner)
    simpa [ownS] using this
  refine (h.map _).trans ?_
  rw [List.map_cons]
  exact (ptsOf_perm xs s.runner).symm.cons _
/-- A runner stands before another with some points: so with more. -/
theorem stand_mono (xs : List Score) (best r race p p' a : Int) (ha : a ≠ r) (hp : p ≤ p') (h : cmpStand (addS xs ⟨r, race, p⟩) best r a < 0) : cmpStand (addS xs ⟨r, race, p'⟩) best r a < 0 := by
  have h1 := pts_same xs ⟨r, race, p⟩
  have h2 := pts_same xs ⟨r, race, p'⟩
  have h3 := pts_other xs ⟨r, race, p⟩ a (by simpa using ha.symm)
  have h4 := pts_other xs ⟨r, race, p'⟩ a (by simpa using ha.symm)
  simp only at h1 h2
  unfold cmpStand totS at h ⊢
  rw [h1, h3] at h
  rw [h2, h4]
  have hm := insD_mono hp (ptsOf_desc xs r)
  have hs := LeL_sum (LeL_take best.toNat hm)
  have hc := @cmpL_mono _ _ (ptsOf xs a) hm
  unfold sumTop at *
  unfold orI cmpI at h ⊢
  grind
end Go.Proofs.Ythhlfkeikcmnlaa
