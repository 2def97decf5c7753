/- Plain: the gap between two runners of a heat. No condition. -/
import Derived.Test.YtabgmbmaakglkaaHtQ
namespace Go.Proofs.Ytabgmbmaakglkaa

/-- The time of a runner of a heat, 0 where there is none. -/
def tOf (h : HK) (a : Int) : Int := h.times.getD (h.runners.idxOf a) 0
noncomputable def gapB (h : HK) (a b : Int) : Bool := goodH h && ((tOf h a != 0) && (tOf h b != 0))
noncomputable def gapV (h : HK) (a b : Int) : Int := if gapB h a b then tOf h b - tOf h a else 0
theorem gap_no {h : HK} {a b : Int} (g : gapB h a b = false) : gapV h a b = 0 := by simp [gapV, g]
theorem gap_yes {h : HK} {a b : Int} (g : gapB h a b = true) : gapV h a b = tOf h b - tOf h a := by simp [gapV, g]
theorem gapB_bad {h : HK} {a b : Int} (g : goodH h = false) : gapB h a b = false := by simp [gapB, g]
theorem gapB_a {h : HK} {a b : Int} (g : tOf h a = 0) : gapB h a b = false := by simp [gapB, g]
theorem gapB_b {h : HK} {a b : Int} (g : tOf h b = 0) : gapB h a b = false := by simp [gapB, g]
theorem gapB_yes {h : HK} {a b : Int} (g : goodH h = true) (ha : tOf h a ≠ 0) (hb : tOf h b ≠ 0) : gapB h a b = true := by simp [gapB, g, ha, hb]
theorem idxOf_at {l : List Int} (hn : l.Nodup) {i : Nat} (hi : i < l.length) : l.idxOf l[i] = i := by
  have h1 : l.idxOf l[i] < l.length := List.idxOf_lt_length_of_mem (List.getElem_mem hi)
  have h2 : l[l.idxOf l[i]] = l[i] := List.getElem_idxOf h1
  rw [List.nodup_iff_pairwise_ne, List.pairwise_iff_getElem] at hn
  rcases Nat.lt_trichotomy (l.idxOf l[i]) i with h | h | h
  · exact absurd h2 (hn _ _ h1 hi h)
  · exact h
  · exact absurd h2.symm (hn _ _ hi h1 h)
theorem tOf_at {h : HK} (g : GoodH h) {i : Nat} (hi : i < h.runners.length) (ht : i < h.times.length) : tOf h h.runners[i] = h.times[i] := by
  unfold tOf
  rw [idxOf_at (good_runners g) hi]
  simp [ht]
theorem tOf_none {h : HK} (g : GoodH h) {a : Int} (ha : a ∉ h.runners) : tOf h a = 0 := by
  unfold tOf
  have : h.runners.idxOf a = h.runners.length := List.idxOf_eq_length ha
  rw [this, ← g.2.1]
  simp
theorem tOf_bd {h : HK} (g : GoodH h) (a : Int) : 0 ≤ tOf h a ∧ tOf h a ≤ 36000 := by
  by_cases ha : a ∈ h.runners
  · obtain ⟨i, hi, rfl⟩ := List.getElem_of_mem ha
    have hl := g.2.1
    rw [tOf_at g hi (by omega)]
    exact (g.2.2 i hi (by omega)).2.2.1
  · rw [tOf_none g ha]; omega
/-- The reference's search, k runners on. -/
def FoundTo (h : HK) (a : Int) (k : Nat) (x : Int) : Prop := (a ∈ h.runners.take k → x = tOf h a) ∧ (a ∉ h.runners.take k → x = 0)
theorem foundTo_zero (h : HK) (a : Int) : FoundTo h a 0 0 := ⟨fun h => absurd h (by simp), fun _ => rfl⟩
theorem foundTo_hit {h : HK} (g : GoodH h) {a : Int} {k : Nat} {x : Int} (hk : k < h.runners.length) (ht : k < h.times.length) (e : h.runners[k] = a) (_ : FoundTo h a k x) : FoundTo h a (k + 1) h.times[k] := by
  refine ⟨fun _ => ?_, fun hn => absurd ?_ hn⟩
  · rw [← e, tOf_at g hk ht]
  · rw [List.take_succ_eq_append_getElem hk, e]; simp
theorem foundTo_miss {h : HK} {a : Int} {k : Nat} {x : Int} (hk : k < h.runners.length) (e : h.runners[k] ≠ a) (f : FoundTo h a k x) : FoundTo h a (k + 1) x := by
  have : a ∈ h.runners.take (k + 1) ↔ a ∈ h.runners.take k := by
    rw [List.take_succ_eq_append_getElem hk]
    simp only [List.mem_append, List.mem_singleton]
    exact ⟨fun h => h.elim id (fun h => absurd h.symm e), .inl⟩
  exact ⟨fun h => f.1 (this.1 h), fun h => f.2 (fun h' => h (this.2 h'))⟩
theorem foundTo_all {h : HK} (g : GoodH h) {a x : Int} (f : FoundTo h a h.runners.length x) : x = tOf h a := by
  unfold FoundTo at f
  rw [List.take_length] at f
  by_cases ha : a ∈ h.runners
  · exact f.1 ha
  · rw [f.2 ha, tOf_none g ha]
end Go.Proofs.Ytabgmbmaakglkaa
