/- Plain: the leader of a place is ranked first there, and ranks follow the order. No condition. -/
import Derived.Test.YtbeonigmcbipeaaFfQ
import Derived.Test.YtbeonigmcbipeaaOrdA
namespace Go.Proofs.Ytbeonigmcbipeaa
open Go Go.RowKit

theorem putAll_asc (kf : PK → Int) (ks : List PK) : (putAll (ltN kf) ks).Pairwise fun a b => kf a ≤ kf b := by
  have h : (putAll (ltN kf) ks).map kf = putAll ltI (ks.map kf) := putAll_map (lt := ltN kf) (lt' := ltI) (f := kf) (fun a b => rfl) ks
  have := putAll_sorted (ks.map kf)
  rw [← h, List.pairwise_map] at this
  exact this
theorem countP_before {α : Type} {p : α → Bool} {l : List α} {i : Nat} (h : ∀ j (hj : j < l.length), i ≤ j → p l[j] = false) : l.countP p ≤ i := by
  rw [← List.take_append_drop i l, List.countP_append]
  have h1 := List.countP_le_length (p := p) (l := l.take i)
  have h2 : (l.drop i).countP p = 0 := by
    rw [List.countP_eq_zero]
    intro a ha
    obtain ⟨k, hk, rfl⟩ := List.getElem_of_mem ha
    rw [List.length_drop] at hk
    rw [List.getElem_drop, h (i + k) (by omega) (by omega)]
    simp
  have h3 : (l.take i).length ≤ i := by simp; omega
  omega
theorem rank_ord (P : Nat) (ks : List PK) (i : Nat) (hi : i < (ordN (keyS P) P ks).length) : rankN ks P (atP (ordN (keyS P) P ks)[i] P) ≤ i + 1 := by
  have hp := putAll_perm (ltN (keyS P)) (ks.filter (wasAt P))
  have ha := putAll_asc (keyS P) (ks.filter (wasAt P))
  have hc : (ordN (keyS P) P ks).countP (fun q => decide (atP q P < atP (ordN (keyS P) P ks)[i] P)) ≤ i := by
    refine countP_before fun j hj hij => ?_
    simp only [decide_eq_false_iff_not]
    by_cases e : i = j
    · subst e; omega
    · have := List.pairwise_iff_getElem.1 ha i j hi hj (by omega)
      simp only [keyS] at this
      change ¬ atP (putAll (ltN (keyS P)) (ks.filter (wasAt P)))[j] P < atP (putAll (ltN (keyS P)) (ks.filter (wasAt P)))[i] P
      exact Int.not_lt.2 this
  have hq := hp.countP_eq (fun q => decide (atP q P < atP (ordN (keyS P) P ks)[i] P))
  unfold rankN
  rw [show ks.filter (ahead P (atP (ordN (keyS P) P ks)[i] P)) = (ks.filter (wasAt P)).filter (fun q => decide (atP q P < atP (ordN (keyS P) P ks)[i] P)) by
    rw [List.filter_filter]
    congr 1
    funext q
    simp only [ahead, wasAt, Bool.and_comm]]
  rw [← List.countP_eq_length_filter, ← hq]
  change 1 + (((ordN (keyS P) P ks).countP _ : Nat) : Int) ≤ _
  omega
theorem ordN_mem {kf : PK → Int} {P : Nat} {ks : List PK} {k : PK} (h : k ∈ ordN kf P ks) : k ∈ ks ∧ P < k.splits.length := by
  have := (putAll_perm (ltN kf) (ks.filter (wasAt P))).mem_iff.1 h
  obtain ⟨h1, h2⟩ := List.mem_filter.1 this
  exact ⟨h1, by simpa [wasAt] using h2⟩
/-- Ranks follow the order. -/
theorem ord_rank (ks : List PK) (p : Int) (i : Nat) (hi : i < (ordV false ks p).length) : ∃ rk, rankV ks p (ordV false ks p)[i] = (rk, true) ∧ 1 ≤ rk ∧ rk ≤ i + 1 ∧ I64 (ordV false ks p)[i] := by
  by_cases ha : askP ks p = true
  · have he : ordV false ks p = (ordN (keyS p.toNat) p.toNat ks).map PK.runner := by
      unfold ordV; rw [if_pos ha]; rfl
    have hi' : i < (ordN (keyS p.toNat) p.toNat ks).length := by rw [he] at hi; simpa using hi
    have hx : (ordV false ks p)[i] = ((ordN (keyS p.toNat) p.toNat ks)[i]).runner := by simp only [he, List.getElem_map]
    obtain ⟨hm, hl⟩ := ordN_mem (List.getElem_mem hi')
    have hr := rank_ord p.toNat ks i hi'
    generalize (ordN (keyS p.toNat) p.toNat ks)[i] = k at hx hm hl hr
    have hg := goodPs_iff.1 (askP_place ha).1
    have hp0 := (askP_place ha).2
    refine ⟨_, by rw [hx, rankV_yes ha (find_self hg hm) (by omega)], (rank_small _ _ _).1, hr, ?_⟩
    rw [hx]
    obtain ⟨j, hj, rfl⟩ := List.getElem_of_mem hm
    have := (hg.1 j hj).1.1
    unfold I64; omega
  · have : ordV false ks p = [] := ordV_no (by simpa using ha)
    rw [this] at hi; simp at hi
theorem lead_head {ks : List PK} {p : Int} (h : (leadW ks p).2.2 = true) : askP ks p = true ∧ ∃ t, ordV false ks p = (leadW ks p).1 :: t := by
  unfold leadW at h ⊢
  split at h
  · rename_i ha
    rw [if_pos ha]
    refine ⟨ha, ?_⟩
    unfold leadV at h ⊢
    unfold ordV
    rw [if_pos ha]
    simp only [Bool.false_eq_true, if_false]
    cases hh : ordN (keyS p.toNat) p.toNat ks with
    | nil => rw [hh] at h; simp at h
    | cons a t => exact ⟨t.map PK.runner, by simp⟩
  · simp at h
end Go.Proofs.Ytbeonigmcbipeaa
