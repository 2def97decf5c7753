/- The walk of RankAt, of the reference. No condition. -/
import Derived.Test.YtbeonigmcbipeaaPasI
namespace Go.Proofs.Ytbeonigmcbipeaa
open Go Go.RowKit

/-- The split at a place (nought where there is none). -/
def atP (p : PK) (pl : Nat) : Int := p.splits.getD pl 0
def ahead (pl : Nat) (s : Int) (q : PK) : Bool := decide (pl < q.splits.length) && decide (atP q pl < s)
def rankN (ks : List PK) (pl : Nat) (s : Int) : Int := 1 + ((ks.filter (ahead pl s)).length : Int)
noncomputable def rankV (ks : List PK) (p r : Int) : Int × Bool :=
  if askP ks p = true then
    match ks.find? (fun k => k.runner == r) with
    | some k => if p < (k.splits.length : Int) then (rankN ks p.toNat (atP k p.toNat), true) else (0, false)
    | none => (0, false)
  else (0, false)
theorem rankV_no {ks : List PK} {p r : Int} (h : askP ks p = false) : rankV ks p r = (0, false) := by simp [rankV, h]
theorem find_of_idx {xs : List Pas} {r : Int} : (idxA (isRun r) xs = -1 → (xs.map Pas.k).find? (fun k => k.runner == r) = none) := by
  intro h
  rcases idxA_cases (isRun r) xs with ⟨_, ha⟩ | ⟨k, hk, hi, _⟩
  · rw [List.find?_eq_none]
    intro x hx
    obtain ⟨p, hp, rfl⟩ := List.mem_map.1 hx
    have := ha p hp
    simpa [isRun] using this
  · omega
theorem find_at {xs : List Pas} {r : Int} {i : Nat} (hi : i < xs.length) (h : isRun r xs[i] = true) (hb : ∀ j (h : j < xs.length), j < i → isRun r xs[j] = false) : (xs.map Pas.k).find? (fun k => k.runner == r) = some xs[i].k := by
  rw [List.find?_eq_some_iff_getElem]
  refine ⟨by simpa [isRun] using h, i, by simpa using hi, by simp, fun j hj => ?_⟩
  have := hb j (by omega) hj
  simpa [isRun] using this
theorem rank_step (ks : List PK) (pl : Nat) (s : Int) (k : Nat) (h : k < ks.length) : rankN (ks.take (k + 1)) pl s = rankN (ks.take k) pl s + (if ahead pl s ks[k] = true then 1 else 0) := by
  unfold rankN
  rw [List.take_succ_eq_append_getElem h, List.filter_append]
  by_cases e : ahead pl s ks[k] = true
  · simp [e]; omega
  · simp [e]
theorem rank_small (ks : List PK) (pl : Nat) (s : Int) : 1 ≤ rankN ks pl s ∧ rankN ks pl s ≤ ks.length + 1 := by
  unfold rankN
  have := List.length_filter_le (ahead pl s) ks
  omega
theorem Pas.In.at {w : World} {p : Pas} (h : p.In w) {pl : Nat} (hp : pl < p.k.splits.length) : ∃ b off, p.a = some ⟨b, off, none⟩ ∧ w.cell? ⟨b, off + pl, none⟩ = some (.int .i64 (atP p.k pl)) := by
  obtain ⟨A, c, hv, hc, hm, hk⟩ := Sl.open_ h
  simp only [Pas.sv, Value.slice.injEq] at hv
  obtain ⟨ha, _, _⟩ := hv
  obtain ⟨b, off, hA, hat⟩ := flat_at hk (by omega)
  have := int_at (hat pl hp)
  rw [Nat.mul_one] at this
  refine ⟨b, off, by rw [ha, hA], ?_⟩
  rw [this]
  simp [atP, hp]
end Go.Proofs.Ytbeonigmcbipeaa
