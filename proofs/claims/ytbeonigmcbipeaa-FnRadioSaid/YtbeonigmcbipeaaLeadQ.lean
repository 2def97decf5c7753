/- Plain: orders at a place and leaders, of what passings mean. No condition. -/
import Derived.Test.YtbeonigmcbipeaaOrd
namespace Go.Proofs.Ytbeonigmcbipeaa

section
variable {α β : Type} {lt : α → α → Bool} {lt' : β → β → Bool} {f : α → β}
theorem placeIn_map (hl : ∀ a b, lt a b = lt' (f a) (f b)) (pre : List α) (x : α) : ∀ k, placeIn lt pre x k = placeIn lt' (pre.map f) (f x) k
  | 0 => rfl
  | k + 1 => by
    have ih := placeIn_map hl pre x k
    unfold placeIn
    rw [List.getElem?_map]
    cases pre[k]? with
    | none => rfl
    | some y => simp only [Option.map_some, hl, ih]
theorem putIn_map (hl : ∀ a b, lt a b = lt' (f a) (f b)) (pre : List α) (x : α) : (putIn lt pre x).map f = putIn lt' (pre.map f) (f x) := by
  unfold putIn
  rw [List.length_map, ← placeIn_map hl]
  simp
theorem putAll_map (hl : ∀ a b, lt a b = lt' (f a) (f b)) (xs : List α) : (putAll lt xs).map f = putAll lt' (xs.map f) := by
  have h : ∀ (xs acc : List α), (xs.foldl (putIn lt) acc).map f = (xs.map f).foldl (putIn lt') (acc.map f) := by
    intro xs
    induction xs with
    | nil => intro acc; rfl
    | cons x xs ih => intro acc; rw [List.foldl_cons, ih, putIn_map hl, List.map_cons, List.foldl_cons]
  exact h xs []
/-- The head of what is put in: the first that is least. -/
theorem putIn_head (O : Ord lt) {pre : List α} {x : α} (hs : pre.Pairwise fun a b => lt b a = false) : (putIn lt pre x).head? = match pre.head? with
    | none => some x
    | some y => if lt x y = true then some x else some y := by
  cases pre with
  | nil => simp [putIn, placeIn]
  | cons y ys =>
    simp only [List.head?_cons]
    have h0 := placeIn_rest O (y :: ys) x hs (y :: ys).length (Nat.le_refl _)
    unfold putIn
    by_cases e : lt x y = true
    · rw [if_pos e]
      have : placeIn lt (y :: ys) x (y :: ys).length = 0 := by
        rcases Nat.eq_zero_or_pos (placeIn lt (y :: ys) x (y :: ys).length) with h | h
        · exact h
        · have := h0.1 0 (by simp) h
          simp only [List.getElem_cons_zero] at this
          rw [e] at this; cases this
      rw [this]
      simp
    · rw [if_neg e]
      have : placeIn lt (y :: ys) x (y :: ys).length ≠ 0 := by
        intro h
        have := h0.2 0 (by simp) (by omega) (by simp)
        exact e (by simpa using this)
      obtain ⟨k, hk⟩ : ∃ k, placeIn lt (y :: ys) x (y :: ys).length = k + 1 := ⟨placeIn lt (y :: ys) x (y :: ys).length - 1, by omega⟩
      rw [hk]
      simp
end
theorem ordLt (kf : PK → Int) : Ord (ltK kf) := ⟨fun x y h => by simp [ltK] at *; omega, fun x y z h1 h2 => by simp [ltK] at *; omega⟩
def ltN (kf : PK → Int) (a b : PK) : Bool := decide (kf a < kf b)
/-- What is meant by the order of those who were at a place. -/
def ordN (kf : PK → Int) (P : Nat) (ks : List PK) : List PK := putAll (ltN kf) (ks.filter (wasAt P))
theorem ordK_map (kf : PK → Int) (P : Nat) (xs : List Pas) : (ordK kf P xs).map Pas.k = ordN kf P (xs.map Pas.k) := by
  unfold ordK ordN
  rw [putAll_map (lt := ltK kf) (lt' := ltN kf) (f := Pas.k) (fun a b => rfl), List.filter_map]
  rfl
theorem ordK_take (kf : PK → Int) (P : Nat) (xs : List Pas) (k : Nat) (h : k < xs.length) : ordK kf P (xs.take (k + 1)) = if wasAt P xs[k].k = true then putIn (ltK kf) (ordK kf P (xs.take k)) xs[k] else ordK kf P (xs.take k) := by
  unfold ordK
  rw [List.take_succ_eq_append_getElem h, List.filter_append]
  by_cases e : wasAt P xs[k].k = true
  · rw [if_pos e, List.filter_cons_of_pos (by simpa using e), List.filter_nil, putAll_append]
    rfl
  · rw [if_neg e, List.filter_cons_of_neg (by simpa using e), List.filter_nil, List.append_nil]
theorem ordK_head (kf : PK → Int) (P : Nat) (xs : List Pas) (k : Nat) (h : k < xs.length) (hw : wasAt P xs[k].k = true) : (ordK kf P (xs.take (k + 1))).head? = match (ordK kf P (xs.take k)).head? with
    | none => some xs[k]
    | some y => if kf xs[k].k < kf y.k then some xs[k] else some y := by
  rw [ordK_take _ _ _ _ h, if_pos hw]
  unfold ordK
  rw [putIn_head (ordLt kf) (putAll_ordered (ordLt kf) _)]
  cases (putAll (ltK kf) (List.filter (fun x => wasAt P x.k) (List.take k xs))).head? with
  | none => rfl
  | some y => simp [ltK]
theorem ordK_len (kf : PK → Int) (P : Nat) (xs : List Pas) : (ordK kf P xs).length ≤ xs.length := by
  unfold ordK
  rw [putAll_len]
  exact List.length_filter_le _ _
/-- The index told of the leader: -1, or that of the head of the order. -/
def LeadI (P : Nat) (xs : List Pas) (all : List Pas) (b : Int) : Prop := ((ordK (keyS P) P xs).head? = none ∧ b = -1) ∨ ∃ i, ∃ h : i < all.length, b = (i : Int) ∧ (ordK (keyS P) P xs).head? = some all[i] ∧ P < all[i].k.splits.length
def leadV (ks : List PK) (p : Int) : Int × Int × Bool := match (ordN (keyS p.toNat) p.toNat ks).head? with
  | some k => (k.runner, atP k p.toNat, true)
  | none => (0, 0, false)
noncomputable def leadW (ks : List PK) (p : Int) : Int × Int × Bool := if askP ks p = true then leadV ks p else (0, 0, false)
theorem head_map {xs : List Pas} {P : Nat} {kf : PK → Int} {x : Pas} (h : (ordK kf P xs).head? = some x) : (ordN kf P (xs.map Pas.k)).head? = some x.k := by
  rw [← ordK_map, List.head?_map, h]; rfl
theorem head_none {xs : List Pas} {P : Nat} {kf : PK → Int} (h : (ordK kf P xs).head? = none) : (ordN kf P (xs.map Pas.k)).head? = none := by
  rw [← ordK_map, List.head?_map, h]; rfl
noncomputable def ordV (leg : Bool) (ks : List PK) (p : Int) : List Int := if askP ks p = true then (ordN (if leg then keyL p.toNat else keyS p.toNat) p.toNat ks).map PK.runner else []
end Go.Proofs.Ytbeonigmcbipeaa
