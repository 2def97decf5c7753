/- Plain: what the forecasts of radio agree on. No condition. -/
import Derived.Test.YtbeonigmcbipeaaNy
namespace Go.Proofs.Ytbeonigmcbipeaa
open Go Go.RowKit

theorem runner_lt {ks : List PK} (h : GoodPs ks) : ∀ (j i : Nat) (hi : i < ks.length) (hj : j < ks.length), i < j → ks[i].runner < ks[j].runner := by
  intro j
  induction j with
  | zero => intro i _ _ h0; omega
  | succ j ih =>
    intro i hi hj hij
    have h1 := (h.1 (j + 1) hj).2 (by omega)
    simp only [Nat.add_sub_cancel] at h1
    by_cases e : i = j
    · subst e; exact h1
    · have := ih i hi (by omega) (by omega); omega
theorem runner_inj {ks : List PK} (h : GoodPs ks) {i j : Nat} (hi : i < ks.length) (hj : j < ks.length) (e : ks[i].runner = ks[j].runner) : i = j := by
  rcases Nat.lt_trichotomy i j with h1 | h1 | h1
  · have := runner_lt h j i hi hj h1; omega
  · exact h1
  · have := runner_lt h i j hj hi h1; omega
theorem find_self {ks : List PK} (h : GoodPs ks) {k : PK} (hk : k ∈ ks) : ks.find? (fun q => q.runner == k.runner) = some k := by
  obtain ⟨i, hi, rfl⟩ := List.getElem_of_mem hk
  rw [List.find?_eq_some_iff_getElem]
  refine ⟨by simp, i, hi, rfl, fun j hj => ?_⟩
  have := runner_lt h i j (by omega) hi hj
  simp only [Bool.not_eq_eq_eq_not, Bool.not_true, beq_eq_false_iff_ne]
  omega
theorem xrV_ok (ks : List PK) (p r : Int) : (xrV ks p r).2 = (fcV ks p r).2 := by
  cases h : (fcV ks p r).2 with
  | false => rw [xrV_no h]
  | true => rw [xrV_yes h]
/-- Who is ranked at a place is ranked no worse than expected. -/
theorem rank_xr {ks : List PK} {p r : Int} (h : (rankV ks p r).2 = true) (hf : (fcV ks p r).2 = true) : (rankV ks p r).1 ≤ (xrV ks p r).1 := by
  obtain ⟨ha, k, hk, hn⟩ := fcV_true hf
  by_cases hp : p < (k.splits.length : Int)
  · have hp0 := (askP_place ha).2
    rw [rankV_yes ha hk hp, xrV_yes hf]
    have e : (fcV ks p r).1 = atP k p.toNat := by
      rw [fc_at (by omega)] at hn
      exact (Option.some.inj hn).symm
    rw [e]
    simp only [rankN, xrN]
    have hs : (ks.filter (ahead p.toNat (atP k p.toNat))).length ≤ (ks.filter (fcB ks p.toNat (atP k p.toNat))).length := by
      rw [← List.countP_eq_length_filter, ← List.countP_eq_length_filter]
      refine List.countP_mono_left fun q _ hq => ?_
      simp only [ahead, Bool.and_eq_true, decide_eq_true_eq] at hq
      rw [fcB_some (fc_at hq.1)]
      simpa using hq.2
    omega
  · rw [rankV_short hk hp] at h
    simp at h
/-- The split at the place is the forecast. -/
theorem split_fc {ks : List PK} {p r : Int} (hf : (fcV ks p r).2 = true) {k : PK} (hk : k ∈ ks) (hr : k.runner = r) (hp : p < (k.splits.length : Int)) : atP k p.toNat = (fcV ks p r).1 := by
  obtain ⟨ha, k', hk', hn⟩ := fcV_true hf
  have hg := goodPs_iff.1 (askP_place ha).1
  subst hr
  rw [find_self hg hk] at hk'
  obtain rfl := Option.some.inj hk'
  have hp0 := (askP_place ha).2
  rw [fc_at (by omega)] at hn
  exact Option.some.inj hn
/-- Who is named as not there yet has a forecast below the time and no rank. -/
theorem ny_facts {ks : List PK} {p t x : Int} (h : x ∈ nyV ks p t) : (fcV ks p x).2 = true ∧ (fcV ks p x).1 < t ∧ (rankV ks p x).2 = false := by
  unfold nyV at h
  split at h
  · rename_i hc
    obtain ⟨k, hk, rfl⟩ := List.mem_map.1 h
    obtain ⟨hk1, hk2⟩ := List.mem_filter.1 hk
    have hg := goodPs_iff.1 (askP_place hc.1).1
    have hp0 := (askP_place hc.1).2
    simp only [nyB, Bool.and_eq_true, decide_eq_true_eq] at hk2
    have hfind := find_self hg hk1
    refine ⟨?_, ?_, ?_⟩
    · unfold fcV
      rw [if_pos hc.1, hfind]
      unfold fcB at hk2
      cases hn : fcN ks p.toNat k with
      | none => rw [hn] at hk2; simp at hk2
      | some y => simp only [hn]
    · unfold fcV
      rw [if_pos hc.1, hfind]
      unfold fcB at hk2
      cases hn : fcN ks p.toNat k with
      | none => rw [hn] at hk2; simp at hk2
      | some y => rw [hn] at hk2; simp only [hn]; simpa using hk2.2
    · rw [rankV_short hfind (by omega)]
  · simp at h
end Go.Proofs.Ytbeonigmcbipeaa
