/- Plain: the order of results. No condition. -/
import Derived.Test.YtojpklpfnmjikaaReQ
import Derived.Test.YtojpklpfnmjikaaSortQ
namespace Go.Proofs.Ytojpklpfnmjikaa

/-- How two runs compare. -/
def cmpR (cs : List Int) (limit : Int) (a b : RunK) : Int := if stV a cs limit = 0 ∧ stV b cs limit = 0 then cmpI (rtime a) (rtime b) else cmpI (stV a cs limit) (stV b cs limit)
/-- Whether a run stands before another one. -/
def befR (cs : List Int) (limit : Int) (a b : RunK) : Bool :=
  if stV a cs limit ≠ stV b cs limit then decide (stV a cs limit < stV b cs limit) else if stV a cs limit = 0 ∧ rtime a ≠ rtime b then decide (rtime a < rtime b) else decide (a.runner < b.runner)
theorem befR_cmp {cs : List Int} {limit : Int} {a b : RunK} (h : b.runner < a.runner) : befR cs limit a b = decide (cmpR cs limit a b < 0) := by
  have hr : decide (a.runner < b.runner) = false := by simp; omega
  unfold befR cmpR cmpI
  rw [hr]
  by_cases h1 : stV a cs limit = stV b cs limit
  · rw [if_neg (by simpa using h1)]
    by_cases h2 : stV b cs limit = 0
    · rw [h1, h2]
      simp only [true_and, and_self, if_true]
      by_cases h3 : rtime a = rtime b
      · rw [h3]; simp
      · rw [if_pos h3]
        by_cases h4 : rtime a < rtime b
        · simp [h4]
        · have : rtime b < rtime a := by omega
          simp [h4, this]
    · rw [if_neg (by rw [h1]; simp [h2]), if_neg (by rw [h1]; simp [h2]), h1]; simp
  · rw [if_pos h1, if_neg (by omega)]
    by_cases h4 : stV a cs limit < stV b cs limit
    · simp [h4]
    · have : stV b cs limit < stV a cs limit := by omega
      simp [h4, this]
abbrev ltX (cs : List Int) (limit : Int) : RunK → RunK → Bool := ltC (cmpR cs limit)
def ordS (cs : List Int) (limit : Int) (ks : List RunK) : List RunK := putAll (ltX cs limit) ks
noncomputable def roV (ks : List RunK) (cs : List Int) (limit : Int) : List Int := if askR ks cs limit = true then (ordS cs limit ks).map RunK.runner else []
theorem ordS_len (cs : List Int) (limit : Int) (ks : List RunK) : (ordS cs limit ks).length = ks.length := putAll_len _ _
theorem roV_len (ks : List RunK) (cs : List Int) (limit : Int) : (roV ks cs limit).length ≤ 10 := by
  unfold roV
  split
  · rename_i h
    rw [List.length_map, ordS_len]
    simp only [askR, Bool.and_eq_true] at h
    exact (goodRs_iff.1 h.1.1).2
  · simp
/-- A list sorted by what its elements mean. -/
theorem placeIn_map {α β : Type} (f : α → β) (l1 : α → α → Bool) (l2 : β → β → Bool) (h : ∀ x y, l1 x y = l2 (f x) (f y)) (pre : List α) (x : α) : ∀ k, placeIn l2 (pre.map f) (f x) k = placeIn l1 pre x k
  | 0 => rfl
  | k + 1 => by
    unfold placeIn
    rw [List.getElem?_map]
    cases hq : pre[k]? with
    | none => rfl
    | some y =>
      simp only [Option.map_some]
      rw [← h, placeIn_map f l1 l2 h pre x k]
theorem putIn_map {α β : Type} (f : α → β) (l1 : α → α → Bool) (l2 : β → β → Bool) (h : ∀ x y, l1 x y = l2 (f x) (f y)) (pre : List α) (x : α) : (putIn l1 pre x).map f = putIn l2 (pre.map f) (f x) := by
  unfold putIn
  rw [List.length_map, placeIn_map f l1 l2 h]
  simp
theorem putAll_map {α β : Type} (f : α → β) (l1 : α → α → Bool) (l2 : β → β → Bool) (h : ∀ x y, l1 x y = l2 (f x) (f y)) (xs : List α) : (putAll l1 xs).map f = putAll l2 (xs.map f) := by
  have g : ∀ (xs acc : List α), (xs.foldl (putIn l1) acc).map f = (xs.map f).foldl (putIn l2) (acc.map f) := by
    intro xs
    induction xs with
    | nil => intro acc; rfl
    | cons x xs ih => intro acc; rw [List.foldl_cons, ih, putIn_map f l1 l2 h]; rfl
  exact g xs []
/-- The runs ascend: so of those before none has a greater number. -/
theorem runs_lt {ks : List RunK} (h : goodRs ks = true) : ks.Pairwise fun a b => a.runner < b.runner := by
  rw [List.pairwise_iff_getElem]
  have h1 := (goodRs_iff.1 h).1
  intro i j hi hj hij
  induction j with
  | zero => omega
  | succ j ih =>
    have h2 := (h1 (j + 1) hj).2 (by omega)
    simp only [Nat.add_sub_cancel] at h2
    by_cases e : i = j
    · subst e; exact h2
    · have := ih (by omega) (by omega)
      omega
end Go.Proofs.Ytojpklpfnmjikaa
