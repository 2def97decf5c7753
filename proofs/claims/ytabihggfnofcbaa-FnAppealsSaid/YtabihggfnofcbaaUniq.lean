/- Plain: ascending lists without repeats; a number put in its place once; neighbours that are equal struck. No condition. -/
import Derived.WalkKit
namespace Go.Proofs.Ytabihggfnofcbaa
abbrev Asc (l : List Int) : Prop := l.Pairwise (· < ·)
theorem asc_ext : ∀ {l1 l2 : List Int}, Asc l1 → Asc l2 → (∀ m, m ∈ l1 ↔ m ∈ l2) → l1 = l2
  | [], [], _, _, _ => rfl
  | [], y :: ys, _, _, h => absurd ((h y).2 (by simp)) (by simp)
  | x :: xs, [], _, _, h => absurd ((h x).1 (by simp)) (by simp)
  | x :: xs, y :: ys, h1, h2, h => by
    have h1' := List.pairwise_cons.1 h1
    have h2' := List.pairwise_cons.1 h2
    have e : x = y := by
      rcases List.mem_cons.1 ((h x).1 (by simp)) with e | e
      · exact e
      · rcases List.mem_cons.1 ((h y).2 (by simp)) with e' | e'
        · exact e'.symm
        · have a := h2'.1 x e
          have b := h1'.1 y e'
          omega
    subst e
    congr 1
    refine asc_ext h1'.2 h2'.2 fun m => ⟨fun hm => ?_, fun hm => ?_⟩
    · rcases List.mem_cons.1 ((h m).1 (by simp [hm])) with e | e
      · have := h1'.1 m hm; omega
      · exact e
    · rcases List.mem_cons.1 ((h m).2 (by simp [hm])) with e | e
      · have := h2'.1 m hm; omega
      · exact e
/-- How many leading numbers are less. -/
def below (l : List Int) (n : Int) : Nat := (l.takeWhile fun x => decide (x < n)).length
theorem below_le (l : List Int) (n : Int) : below l n ≤ l.length := by
  unfold below
  exact List.Sublist.length_le (List.takeWhile_sublist _)
theorem below_is {l : List Int} {n : Int} {k : Nat} (h1 : ∀ j (h : j < l.length), j < k → l[j] < n) (h2 : ∀ h : k < l.length, ¬ l[k] < n) (hk : k ≤ l.length) : below l n = k := by
  unfold below
  have e : l.takeWhile (fun x => decide (x < n)) = l.take k := by
    induction l generalizing k with
    | nil => simp
    | cons x xs ih =>
      cases k with
      | zero =>
        have := h2 (by simp)
        simp only [List.getElem_cons_zero] at this
        simp [this]
      | succ k =>
        have h0 := h1 0 (by simp) (by omega)
        simp only [List.getElem_cons_zero] at h0
        rw [List.takeWhile_cons_of_pos (by simpa using h0), List.take_succ_cons]
        congr 1
        exact ih (fun j hj hjk => by have := h1 (j + 1) (by simp; omega) (by omega); simpa using this) (fun h => by have := h2 (by simp; omega); simpa using this) (by simp at hk; omega)
  rw [e]
  simp; omega
/-- A number put to its place, once. -/
def putU (l : List Int) (n : Int) : List Int := if l[below l n]? = some n then l else l.take (below l n) ++ n :: l.drop (below l n)
theorem below_spec (l : List Int) (n : Int) : (∀ x ∈ l.take (below l n), x < n) ∧ (∀ h : below l n < l.length, ¬ l[below l n] < n) := by
  induction l with
  | nil => simp [below]
  | cons x xs ih =>
    by_cases hx : x < n
    · have e : below (x :: xs) n = below xs n + 1 := by unfold below; rw [List.takeWhile_cons_of_pos (by simpa using hx)]; rfl
      rw [e, List.take_succ_cons]
      refine ⟨fun y hy => ?_, fun h => ?_⟩
      · rcases List.mem_cons.1 hy with rfl | hy
        · exact hx
        · exact ih.1 y hy
      · have := ih.2 (by simpa using h)
        simpa using this
    · have e : below (x :: xs) n = 0 := by unfold below; rw [List.takeWhile_cons_of_neg (by simpa using hx)]; rfl
      rw [e]
      exact ⟨by simp, fun _ => by simpa using hx⟩
theorem putU_mem (l : List Int) (n m : Int) : m ∈ putU l n ↔ m = n ∨ m ∈ l := by
  unfold putU
  split
  · rename_i h
    have := List.mem_of_getElem? h
    constructor
    · exact .inr
    · rintro (rfl | h) <;> assumption
  · rw [List.mem_append, List.mem_cons]
    conv => rhs; rw [← List.take_append_drop (below l n) l, List.mem_append]
    grind
theorem putU_asc {l : List Int} (hl : Asc l) (n : Int) : Asc (putU l n) := by
  unfold putU
  split
  · exact hl
  · rename_i h
    obtain ⟨h1, h2⟩ := below_spec l n
    have h12 := hl
    unfold Asc at h12
    rw [← List.take_append_drop (below l n) l, List.pairwise_append] at h12
    unfold Asc
    rw [List.pairwise_append, List.pairwise_cons]
    have h3 : ∀ y ∈ l.drop (below l n), n < y := by
      intro y hy
      obtain ⟨i, hi, rfl⟩ := List.getElem_of_mem hy
      have hlt : below l n < l.length := by simp at hi; omega
      have h4 := h2 hlt
      rw [List.getElem_drop]
      rw [List.getElem?_eq_getElem hlt] at h
      have h5 : l[below l n] ≠ n := fun e => h (by rw [e])
      by_cases e : i = 0
      · subst e; simp only [Nat.add_zero]; omega
      · have := List.pairwise_iff_getElem.1 hl (below l n) (below l n + i) hlt (by simp at hi; omega) (by omega)
        omega
    refine ⟨h12.1, ⟨h3, h12.2.1⟩, fun y hy z hz => ?_⟩
    rcases List.mem_cons.1 hz with rfl | hz
    · exact h1 y hy
    · exact h12.2.2 y hy z hz
/-- Numbers put to their places one after another. -/
def putUs (l : List Int) : List Int := l.foldl putU []
theorem putUs_ok (xs : List Int) : Asc (putUs xs) ∧ ∀ m, m ∈ putUs xs ↔ m ∈ xs := by
  have h : ∀ (xs acc : List Int), Asc acc → Asc (xs.foldl putU acc) ∧ ∀ m, m ∈ xs.foldl putU acc ↔ m ∈ acc ∨ m ∈ xs := by
    intro xs
    induction xs with
    | nil => intro acc h; simp [h]
    | cons x xs ih =>
      intro acc h
      obtain ⟨h1, h2⟩ := ih (putU acc x) (putU_asc h x)
      refine ⟨h1, fun m => ?_⟩
      rw [List.foldl_cons, h2, putU_mem]
      simp
      grind
  have := h xs [] List.Pairwise.nil
  simpa [putUs] using this
theorem putUs_take (xs : List Int) (k : Nat) (h : k < xs.length) : putUs (xs.take (k + 1)) = putU (putUs (xs.take k)) xs[k] := by
  unfold putUs
  rw [List.take_succ_eq_append_getElem h, List.foldl_append]
  rfl
/-- Equal neighbours struck: the first of each stays. -/
def squeeze : List Int → List Int
  | [] => []
  | x :: xs => match xs with
    | [] => [x]
    | y :: _ => if x = y then squeeze xs else x :: squeeze xs
theorem squeeze_mem : ∀ (l : List Int) (m : Int), m ∈ squeeze l ↔ m ∈ l
  | [], m => by simp [squeeze]
  | [x], m => by simp [squeeze]
  | x :: y :: ys, m => by
    have ih := squeeze_mem (y :: ys) m
    rw [squeeze]
    split
    · rename_i e; subst e; rw [ih]; simp
    · simp only [List.mem_cons, ih]
theorem squeeze_asc : ∀ {l : List Int}, l.Pairwise (· ≤ ·) → Asc (squeeze l)
  | [], _ => List.Pairwise.nil
  | [x], _ => by simp [squeeze, Asc]
  | x :: y :: ys, h => by
    have h' := List.pairwise_cons.1 h
    have ih := squeeze_asc h'.2
    rw [squeeze]
    split
    · exact ih
    · rename_i e
      refine List.pairwise_cons.2 ⟨fun z hz => ?_, ih⟩
      have hz' := (squeeze_mem _ _).1 hz
      have a := h'.1 z hz'
      have b := h'.1 y (by simp)
      rcases List.mem_cons.1 hz' with rfl | hz2
      · omega
      · have := (List.pairwise_cons.1 h'.2).1 z hz2; omega
/-- The numbers sorted, repeats struck, are the numbers put to their places. -/
theorem squeeze_sorted {l s : List Int} (hs : s.Pairwise (· ≤ ·)) (hp : s.Perm l) : squeeze s = putUs l :=
  asc_ext (squeeze_asc hs) (putUs_ok l).1 fun m => by rw [squeeze_mem, (putUs_ok l).2]; exact hp.mem_iff
end Go.Proofs.Ytabihggfnofcbaa
