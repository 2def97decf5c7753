/- Plain: comparisons that are orders up to ties, ties broken by the numbers; what a merge of two runs is. No condition. -/
import Derived.Test.YthhlfkeikcmnlaaSortQ
namespace Go.Proofs.Ythhlfkeikcmnlaa

/-- A comparison that is an order up to ties. -/
structure Cmp {α : Type} (cf : α → α → Int) : Prop where
  neg : ∀ x y, cf y x = - cf x y
  tr : ∀ x y z, cf x y ≤ 0 → cf y z ≤ 0 → cf x z ≤ 0
/-- Less by the comparison, of equal ones the lesser number. -/
def ltR (cf : Int → Int → Int) (x y : Int) : Bool := decide (cf x y < 0) || (decide (cf x y = 0) && decide (x < y))
theorem ltR_iff {cf : Int → Int → Int} {x y : Int} : ltR cf x y = true ↔ cf x y < 0 ∨ (cf x y = 0 ∧ x < y) := by simp [ltR]
theorem ltR_not {cf : Int → Int → Int} {x y : Int} : ltR cf x y = false ↔ 0 ≤ cf x y ∧ (cf x y = 0 → y ≤ x) := by
  rw [← Bool.not_eq_true, ltR_iff]
  constructor
  · intro h
    refine ⟨?_, ?_⟩
    · rcases Int.lt_or_le (cf x y) 0 with h1 | h1
      · exact absurd (.inl h1) h
      · exact h1
    · intro h1
      rcases Int.lt_or_le x y with h2 | h2
      · exact absurd (.inr ⟨h1, h2⟩) h
      · exact h2
  · rintro ⟨h1, h2⟩ (h3 | ⟨h3, h4⟩)
    · omega
    · have := h2 h3; omega
/-- In order. -/
abbrev Srt (cf : Int → Int → Int) (l : List Int) : Prop := l.Pairwise fun a b => ltR cf b a = false
section
variable {cf : Int → Int → Int}
theorem le_trans (C : Cmp cf) {x y z : Int} (h1 : ltR cf y x = false) (h2 : ltR cf z y = false) : ltR cf z x = false := by
  rw [ltR_not] at *
  have a1 := C.neg x y; have a2 := C.neg y z; have a3 := C.neg x z
  have t := C.tr x y z (by omega) (by omega)
  refine ⟨by omega, fun h => ?_⟩
  have t1 := C.tr y z x (by omega) (by omega)
  have t2 := C.tr z x y (by omega) (by omega)
  have := h1.2 (by omega); have := h2.2 (by omega)
  omega
theorem ordR (C : Cmp cf) : Ord (ltR cf) := ⟨fun x y h => by rw [ltR_iff] at h; rw [ltR_not]; have := C.neg x y; omega, fun _ _ _ h1 h2 => le_trans C h1 h2⟩
theorem srt_unique (C : Cmp cf) {l1 l2 : List Int} (h1 : Srt cf l1) (h2 : Srt cf l2) (hp : l1.Perm l2) : l1 = l2 :=
  List.Perm.eq_of_pairwise (fun a b _ _ h h' => by
    rw [ltR_not] at h h'
    have := C.neg a b
    have := h.2 (by omega); have := h'.2 (by omega)
    omega) h1 h2 hp
theorem placeIn_congr {α : Type} {l1 l2 : α → α → Bool} {pre : List α} {x : α} (h : ∀ y ∈ pre, l1 x y = l2 x y) : ∀ k, placeIn l1 pre x k = placeIn l2 pre x k
  | 0 => rfl
  | k + 1 => by
    unfold placeIn
    cases hq : pre[k]? with
    | none => rfl
    | some y =>
      simp only
      rw [h y (List.mem_of_getElem? hq), placeIn_congr h k]
theorem putIn_congr {α : Type} {l1 l2 : α → α → Bool} {pre : List α} {x : α} (h : ∀ y ∈ pre, l1 x y = l2 x y) : putIn l1 pre x = putIn l2 pre x := by
  unfold putIn
  rw [placeIn_congr h]
/-- Of ascending numbers: sorting by the comparison, stably, is sorting with the ties broken. -/
theorem putAll_asc {xs : List Int} (ha : xs.Pairwise (· < ·)) : putAll (ltC cf) xs = putAll (ltR cf) xs := by
  have h : ∀ (xs acc : List Int), xs.Pairwise (· < ·) → (∀ y ∈ acc, ∀ x ∈ xs, y < x) → xs.foldl (putIn (ltC cf)) acc = xs.foldl (putIn (ltR cf)) acc := by
    intro xs
    induction xs with
    | nil => intro acc _ _; rfl
    | cons x xs ih =>
      intro acc h1 h2
      have e : putIn (ltC cf) acc x = putIn (ltR cf) acc x := putIn_congr fun y hy => by
        have := h2 y hy x (by simp)
        unfold ltC ltR
        have : decide (x < y) = false := by simp; omega
        simp [this]
      rw [List.foldl_cons, List.foldl_cons, e]
      rw [List.pairwise_cons] at h1
      refine ih _ h1.2 fun y hy z hz => ?_
      rcases List.mem_cons.1 ((putIn_perm _ _ _).mem_iff.1 hy) with rfl | hy
      · exact h1.1 z hz
      · exact h2 y hy z (List.mem_cons_of_mem _ hz)
  exact h xs [] ha (by simp)
theorem putAll_srt (C : Cmp cf) {xs : List Int} (ha : xs.Pairwise (· < ·)) : Srt cf (putAll (ltC cf) xs) := by
  rw [putAll_asc ha]
  exact putAll_ordered (ordR C) xs
/-- What stands in order and holds the same is the sorted list. -/
theorem srt_is (C : Cmp cf) {xs l : List Int} (ha : xs.Pairwise (· < ·)) (hs : Srt cf l) (hp : l.Perm xs) : l = putAll (ltC cf) xs :=
  srt_unique C hs (putAll_srt C ha) (hp.trans (putAll_perm _ xs).symm)
/-- Two runs cut at places where the parts before are not greater than those behind. -/
theorem cut_ok (C : Cmp cf) {A B : List Int} (hA : Srt cf A) (hB : Srt cf B) (hAB : ∀ a ∈ A, ∀ b ∈ B, a < b) {i j : Nat} (hi : i ≤ A.length) (hj : j ≤ B.length)
    (h1 : ∀ (hi0 : 0 < i) (hjl : j < B.length), ¬ cf B[j] (A[i - 1]'(by omega)) < 0) (h2 : ∀ (hj0 : 0 < j) (hil : i < A.length), cf (B[j - 1]'(by omega)) A[i] < 0) :
    ∀ x ∈ A.take i ++ B.take j, ∀ y ∈ A.drop i ++ B.drop j, ltR cf y x = false := by
  have hA' := List.pairwise_iff_getElem.1 hA
  have hB' := List.pairwise_iff_getElem.1 hB
  have refl_ : ∀ x, ltR cf x x = false := fun x => by rw [ltR_not]; have := C.neg x x; omega
  have gA : ∀ p q (hp : p < A.length) (hq : q < A.length), p ≤ q → ltR cf A[q] A[p] = false := fun p q hp hq h => by
    by_cases e : p = q
    · subst e; exact refl_ _
    · exact hA' p q hp hq (by omega)
  have gB : ∀ p q (hp : p < B.length) (hq : q < B.length), p ≤ q → ltR cf B[q] B[p] = false := fun p q hp hq h => by
    by_cases e : p = q
    · subst e; exact refl_ _
    · exact hB' p q hp hq (by omega)
  intro x hx y hy
  rcases List.mem_append.1 hx with hx | hx <;> rcases List.mem_append.1 hy with hy | hy <;> obtain ⟨p, hp, rfl⟩ := List.getElem_of_mem hx <;> obtain ⟨q, hq, rfl⟩ := List.getElem_of_mem hy <;> rw [List.getElem_take, List.getElem_drop] <;> simp only [List.length_take, List.length_drop] at hp hq
  · exact gA _ _ _ _ (by omega)
  · have a1 := gA p (i - 1) (by omega) (by omega) (by omega)
    have a2 := gB j (j + q) (by omega) (by omega) (by omega)
    have a3 : ltR cf B[j] (A[i - 1]'(by omega)) = false := by
      rw [ltR_not]
      have := h1 (by omega) (by omega)
      have := hAB (A[i - 1]'(by omega)) (List.getElem_mem _) B[j] (List.getElem_mem _)
      omega
    exact le_trans C (le_trans C a1 a3) a2
  · have a1 := gB p (j - 1) (by omega) (by omega) (by omega)
    have a2 := gA i (i + q) (by omega) (by omega) (by omega)
    have a3 : ltR cf A[i] (B[j - 1]'(by omega)) = false := by
      rw [ltR_not]
      have := h2 (by omega) (by omega)
      have := C.neg (B[j - 1]'(by omega)) A[i]
      omega
    exact le_trans C (le_trans C a1 a3) a2
  · exact gB _ _ _ _ (by omega)
theorem srt_join {S1 S2 X Y : List Int} (h1 : Srt cf S1) (h2 : Srt cf S2) (p1 : S1.Perm X) (p2 : S2.Perm Y) (h : ∀ x ∈ X, ∀ y ∈ Y, ltR cf y x = false) : Srt cf (S1 ++ S2) := by
  rw [Srt, List.pairwise_append]
  exact ⟨h1, h2, fun x hx y hy => h x (p1.mem_iff.1 hx) y (p2.mem_iff.1 hy)⟩
theorem srt_take {l : List Int} (h : Srt cf l) (i : Nat) : Srt cf (l.take i) := h.sublist (List.take_sublist _ _)
theorem srt_drop {l : List Int} (h : Srt cf l) (i : Nat) : Srt cf (l.drop i) := h.sublist (List.drop_sublist _ _)
theorem perm_cut {A B S1 S2 : List Int} (i j : Nat) (p1 : S1.Perm (A.take i ++ B.take j)) (p2 : S2.Perm (A.drop i ++ B.drop j)) : (S1 ++ S2).Perm (A ++ B) := by
  refine (p1.append p2).trans ?_
  have e : A ++ B = (A.take i ++ A.drop i) ++ (B.take j ++ B.drop j) := by rw [List.take_append_drop, List.take_append_drop]
  rw [e, List.append_assoc, List.append_assoc]
  refine List.Perm.append_left _ ?_
  rw [← List.append_assoc, ← List.append_assoc]
  exact List.Perm.append_right _ List.perm_append_comm
end
end Go.Proofs.Ythhlfkeikcmnlaa
