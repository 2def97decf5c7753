/- Plain: photo finishes. No condition. -/
import Derived.Test.YtabgmbmaakglkaaHtQ
namespace Go.Proofs.Ytabgmbmaakglkaa

/-- What PhotoFinish answers. -/
noncomputable def askP (ks : List HK) (q : Int) : Bool := goodR ks && (decide (1 ≤ q) && decide (q ≤ 60))
noncomputable def phV (ks : List HK) (q : Int) : List (List Int) := if askP ks q then nearN q (allF ks) (allF ks).length else []
theorem phV_no {ks : List HK} {q : Int} (h : askP ks q = false) : phV ks q = [] := by simp [phV, h]
theorem phV_yes {ks : List HK} {q : Int} (h : askP ks q = true) : phV ks q = nearN q (allF ks) (allF ks).length := by simp [phV, h]
theorem askP_good {ks : List HK} {q : Int} (h : askP ks q = true) : goodR ks = true := by simp only [askP, Bool.and_eq_true] at h; exact h.1
theorem nearAt_len (q : Int) (l : List Fns) (i : Nat) : (nearAt q l i).length ≤ 1 ∧ ∀ k ∈ nearAt q l i, k.length = 2 := by
  unfold nearAt
  split
  · split
    · simp
    · simp
  · simp
theorem nearN_len (q : Int) (l : List Fns) : ∀ k, (nearN q l k).length ≤ k ∧ ∀ x ∈ nearN q l k, x.length = 2
  | 0 => by simp [nearN_zero]
  | k + 1 => by
    obtain ⟨h1, h2⟩ := nearN_len q l k
    obtain ⟨h3, h4⟩ := nearAt_len q l k
    rw [nearN_succ]
    refine ⟨by rw [List.length_append]; omega, fun x hx => ?_⟩
    rcases List.mem_append.1 hx with hx | hx
    · exact h2 x hx
    · exact h4 x hx
theorem phV_small (ks : List HK) (q : Int) : (phV ks q).length ≤ 1048576 ∧ ∀ k ∈ phV ks q, k.length ≤ 1048576 := by
  cases h : askP ks q with
  | false => simp [phV_no h]
  | true =>
    rw [phV_yes h]
    have h1 := nearN_len q (allF ks) (allF ks).length
    have h2 := goodR_len (goodR_iff.1 (askP_good h))
    exact ⟨by omega, fun k hk => by have := h1.2 k hk; omega⟩
theorem allF_zero : ∀ (ks : List HK) (h : 0 < (allF ks).length), (allF ks)[0].place = 0
  | [], h => absurd h (by simp [allF])
  | k :: ks, h => by
    have e : allF (k :: ks) = finN k ++ allF ks := by simp [allF]
    rcases Nat.eq_zero_or_pos (finN k).length with h0 | h0
    · have e0 := List.eq_nil_of_length_eq_zero h0
      rw [e0, List.nil_append] at e
      have h' : 0 < (allF ks).length := by rw [← e]; exact h
      have := allF_zero ks h'
      simp only [e]
      exact this
    · have h1 : (allF (k :: ks))[0] = (finN k)[0] := by
        simp only [e]
        exact List.getElem_append_left h0
      rw [h1, finN_place h0]
      rfl
theorem nearN_one (q : Int) (ks : List HK) : nearN q (allF ks) 1 = [] := by
  rw [nearN_succ, nearN_zero, List.nil_append]
  rcases Nat.eq_zero_or_pos (allF ks).length with h | h
  · have := List.eq_nil_of_length_eq_zero h
    simp [nearAt, this]
  · rw [nearAt_get h (by omega), allF_zero ks h]
    simp
theorem finN_time {h : HK} (g : GoodH h) {f : Fns} (hf : f ∈ finN h) : 0 ≤ f.time ∧ f.time ≤ 36000 := by
  obtain ⟨i, hi, h0, ht, _⟩ := finN_mem hf
  have hl := g.2.1
  have := (g.2.2 i hi (by omega)).2.2.1
  rw [ht, tmAt_eq (by omega)]
  exact this
theorem allF_time {ks : List HK} (g : GoodR ks) {f : Fns} (hf : f ∈ allF ks) : 0 ≤ f.time ∧ f.time ≤ 36000 := by
  obtain ⟨h, hh, hf⟩ := List.mem_flatMap.1 hf
  exact finN_time (g.1 h hh) hf
theorem nearAt_yes {q : Int} {l : List Fns} {i : Nat} (h : i < l.length) (h1 : i - 1 < l.length) (h0 : 0 < l[i].place) (hq : l[i].time - l[i - 1].time ≤ q) : nearAt q l i = [[l[i - 1].runner, l[i].runner]] := by
  rw [nearAt_get h h1, if_pos ⟨h0, hq⟩]
theorem nearAt_no {q : Int} {l : List Fns} {i : Nat} (h : i < l.length) (h1 : i - 1 < l.length) (h0 : ¬ (0 < l[i].place ∧ l[i].time - l[i - 1].time ≤ q)) : nearAt q l i = [] := by
  rw [nearAt_get h h1, if_neg h0]
end Go.Proofs.Ytabgmbmaakglkaa
