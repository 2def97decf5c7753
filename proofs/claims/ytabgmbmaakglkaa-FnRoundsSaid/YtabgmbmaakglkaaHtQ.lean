/- Plain: what the tests of heats and rounds find. No condition. -/
import Derived.Test.YtabgmbmaakglkaaSpQ
namespace Go.Proofs.Ytabgmbmaakglkaa

theorem any_dec (xs : List Int) (n : Int) : xs.any (fun y => n == y) = decide (n ∈ xs) := by
  rw [Bool.eq_iff_iff, List.any_eq_true, decide_eq_true_iff]
  constructor
  · rintro ⟨x, hx, e⟩; rw [eq_of_beq e]; exact hx
  · exact fun h => ⟨n, h, by simp⟩
/-- Whether a list has something twice. -/
def twice (xs : List Int) : Bool := !decide xs.Nodup
theorem nodup_steps {xs : List Int} : xs.Nodup ↔ ∀ j (h : j < xs.length), xs[j] ∉ xs.take j := by
  rw [List.nodup_iff_pairwise_ne, List.pairwise_iff_getElem]
  constructor
  · intro h j hj hm
    obtain ⟨i, hi, e⟩ := List.mem_take_iff_getElem.1 hm
    exact h i j (by omega) hj (by omega) e
  · intro h i j hi hj hij e
    refine h j hj ?_
    rw [← e]
    exact List.mem_take_iff_getElem.2 ⟨i, by omega, rfl⟩
theorem twice_at {xs : List Int} {j : Nat} (h : j < xs.length) (hm : (xs.take j).any (fun y => xs[j] == y) = true) : twice xs = true := by
  rw [any_dec, decide_eq_true_iff] at hm
  simp only [twice, Bool.not_eq_true', decide_eq_false_iff_not]
  exact fun hn => nodup_steps.1 hn j h hm
theorem twice_no {xs : List Int} (h : ∀ j (h : j < xs.length), (xs.take j).any (fun y => xs[j] == y) = false) : twice xs = false := by
  simp only [twice, Bool.not_eq_false', decide_eq_true_eq]
  refine nodup_steps.2 fun j hj hm => ?_
  have := h j hj
  rw [any_dec, decide_eq_false_iff_not] at this
  exact this hm

/-- The impl's test of one runner and time. -/
def okT (ts : List Int) (i : Nat) (r t : Int) : Bool := (decide (1 ≤ r) && decide (r ≤ 999)) && ((decide (0 ≤ t) && decide (t ≤ 36000)) && !(decide (0 < t) && (ts.take i).any (fun y => t == y)))
theorem okT_iff {ts : List Int} {i : Nat} {r t : Int} : okT ts i r t = true ↔ (1 ≤ r ∧ r ≤ 999) ∧ (0 ≤ t ∧ t ≤ 36000) ∧ (0 < t → t ∉ ts.take i) := by
  simp only [okT, any_dec, Bool.and_eq_true, decide_eq_true_eq, Bool.not_eq_true', Bool.and_eq_false_iff, decide_eq_false_iff_not]
  constructor
  · rintro ⟨h1, h2, h3⟩; exact ⟨h1, h2, fun h => h3.elim (fun x => absurd h x) id⟩
  · rintro ⟨h1, h2, h3⟩; exact ⟨h1, h2, if h : 0 < t then .inr (h3 h) else .inl h⟩
theorem goodH_impl {h : HK} (h1 : 2 ≤ h.runners.length ∧ h.runners.length ≤ 6) (h2 : h.times.length = h.runners.length) (h3 : twice h.runners = false)
    (h4 : ∀ k (hk : k < h.runners.length) (ht : k < h.times.length), okT h.times k h.runners[k] h.times[k] = true) : goodH h = true := by
  refine goodH_true ⟨h1, h2, fun k hk ht => ?_⟩
  have h5 := okT_iff.1 (h4 k hk ht)
  simp only [twice, Bool.not_eq_false', decide_eq_true_eq] at h3
  exact ⟨h5.1, nodup_steps.1 h3 k hk, h5.2.1, h5.2.2⟩
theorem goodH_lens {h : HK} (h1 : ¬ (2 ≤ h.runners.length ∧ h.runners.length ≤ 6 ∧ h.times.length = h.runners.length)) : goodH h = false := goodH_false fun g => h1 ⟨g.1.1, g.1.2, g.2.1⟩
theorem goodH_twice {h : HK} (h3 : twice h.runners = true) : goodH h = false := by
  refine goodH_false fun g => ?_
  simp only [twice, Bool.not_eq_true', decide_eq_false_iff_not] at h3
  exact h3 (good_runners g)
theorem goodH_bad {h : HK} {k : Nat} (hk : k < h.runners.length) (ht : k < h.times.length) (h4 : okT h.times k h.runners[k] h.times[k] = false) : goodH h = false := by
  refine goodH_false fun g => ?_
  have h5 := g.2.2 k hk ht
  rw [okT_iff.2 ⟨h5.1, h5.2.2.1, h5.2.2.2⟩] at h4
  exact absurd h4 (by simp)
theorem goodH_spec {h : HK} (h1 : 2 ≤ h.runners.length ∧ h.runners.length ≤ 6) (h2 : h.times.length = h.runners.length)
    (h4 : ∀ k (hk : k < h.runners.length) (ht : k < h.times.length), okT h.times k h.runners[k] h.times[k] = true ∧ (h.runners.take k).any (fun y => h.runners[k] == y) = false) : goodH h = true :=
  goodH_impl h1 h2 (twice_no fun j hj => (h4 j hj (by omega)).2) fun k hk ht => (h4 k hk ht).1
theorem goodH_has {h : HK} {k : Nat} (hk : k < h.runners.length) (h4 : (h.runners.take k).any (fun y => h.runners[k] == y) = true) : goodH h = false := goodH_twice (twice_at hk h4)

/-- Rounds: what is known of the first k heats. -/
def GoodTo (ks : List HK) (k : Nat) : Prop := (∀ h ∈ ks.take k, GoodH h) ∧ ((ks.take k).flatMap HK.runners).Nodup
theorem goodTo_zero (ks : List HK) : GoodTo ks 0 := ⟨by simp, by simp⟩
theorem flat_succ {ks : List HK} {k : Nat} (h : k < ks.length) : (ks.take (k + 1)).flatMap HK.runners = (ks.take k).flatMap HK.runners ++ ks[k].runners := by
  rw [List.take_succ_eq_append_getElem h, List.flatMap_append]; simp
theorem goodTo_succ {ks : List HK} {k : Nat} (hk : k < ks.length) (g : GoodTo ks k) (h1 : goodH ks[k] = true) (h2 : twice ((ks.take k).flatMap HK.runners ++ ks[k].runners) = false) : GoodTo ks (k + 1) := by
  refine ⟨?_, ?_⟩
  · intro h hh
    rw [List.take_succ_eq_append_getElem hk, List.mem_append, List.mem_singleton] at hh
    rcases hh with hh | rfl
    · exact g.1 h hh
    · exact goodH_iff.1 h1
  · rw [flat_succ hk]
    simpa [twice] using h2
theorem goodR_heat {ks : List HK} {k : Nat} (hk : k < ks.length) (h1 : goodH ks[k] = false) : goodR ks = false := by
  refine goodR_false fun g => ?_
  rw [goodH_true (g.1 _ (List.getElem_mem hk))] at h1
  exact absurd h1 (by simp)
theorem goodR_twice {ks : List HK} {k : Nat} (hk : k < ks.length) (h2 : twice ((ks.take k).flatMap HK.runners ++ ks[k].runners) = true) : goodR ks = false := by
  refine goodR_false fun g => ?_
  simp only [twice, Bool.not_eq_true', decide_eq_false_iff_not] at h2
  refine h2 ?_
  rw [← flat_succ hk]
  refine List.Nodup.sublist ?_ g.2.1
  conv => rhs; rw [← List.take_append_drop (k + 1) ks, List.flatMap_append]
  exact List.sublist_append_left _ _
theorem goodR_end {ks : List HK} (g : GoodTo ks ks.length) : goodR ks = (decide (1 ≤ ks.length) && decide (ks.length ≤ 4)) := by
  unfold GoodTo at g
  rw [List.take_length] at g
  rw [Bool.eq_iff_iff, goodR_iff, Bool.and_eq_true, decide_eq_true_eq, decide_eq_true_eq]
  exact ⟨fun h => h.2.2, fun h => ⟨g.1, g.2, h⟩⟩
theorem goodTo_len {ks : List HK} {k : Nat} (g : GoodTo ks k) : ((ks.take k).flatMap HK.runners).length ≤ 6 * k := by
  have : ∀ l : List HK, (∀ h ∈ l, GoodH h) → (l.flatMap HK.runners).length ≤ 6 * l.length := by
    intro l
    induction l with
    | nil => simp
    | cons h l ih =>
      intro hg
      have h1 := ih fun x hx => hg x (by simp [hx])
      have h2 := (hg h (by simp)).1.2
      simp only [List.flatMap_cons, List.length_append, List.length_cons] at h1 ⊢
      omega
  have h1 := this _ g.1
  have h2 : (ks.take k).length ≤ k := by simp; omega
  omega
/-- The spec looks each runner up among those seen. -/
theorem twice_seen {xs ys : List Int} {j : Nat} (hj : j < ys.length) (h : xs.any (fun y => ys[j] == y) = true) : twice (xs ++ ys) = true := by
  rw [any_dec, decide_eq_true_iff] at h
  simp only [twice, Bool.not_eq_true', decide_eq_false_iff_not]
  intro hn
  rw [List.nodup_iff_pairwise_ne, List.pairwise_append] at hn
  exact hn.2.2 _ h _ (List.getElem_mem hj) rfl
theorem twice_unseen {xs ys : List Int} (h1 : xs.Nodup) (h2 : ys.Nodup) (h : ∀ j (hj : j < ys.length), xs.any (fun y => ys[j] == y) = false) : twice (xs ++ ys) = false := by
  simp only [twice, Bool.not_eq_false', decide_eq_true_eq]
  rw [List.nodup_iff_pairwise_ne, List.pairwise_append]
  refine ⟨List.nodup_iff_pairwise_ne.1 h1, List.nodup_iff_pairwise_ne.1 h2, fun a ha b hb e => ?_⟩
  obtain ⟨j, hj, rfl⟩ := List.getElem_of_mem hb
  have := h j hj
  rw [any_dec, decide_eq_false_iff_not] at this
  exact this (e ▸ ha)
end Go.Proofs.Ytabgmbmaakglkaa
