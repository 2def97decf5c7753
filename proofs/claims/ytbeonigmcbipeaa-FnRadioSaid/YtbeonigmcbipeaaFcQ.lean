/- Plain: forecasts at a place, of what passings mean. No condition. -/
import Derived.Test.YtbeonigmcbipeaaLeadAt
namespace Go.Proofs.Ytbeonigmcbipeaa
open Go Go.RowKit

/-- The forecast of a passing, that of the leader given. -/
def fcOf (P : Nat) (k L : PK) : Int := (2 * atP k (k.splits.length - 1) * atP L P + atP L (k.splits.length - 1)) / (2 * atP L (k.splits.length - 1))
/-- The split or the forecast of a passing at a place. -/
def fcN (ks : List PK) (P : Nat) (k : PK) : Option Int :=
  if P < k.splits.length then some (atP k P)
  else if k.splits.length = 0 then none
  else (ordN (keyS P) P ks).head?.map (fcOf P k)
theorem fc_at {ks : List PK} {P : Nat} {k : PK} (h : P < k.splits.length) : fcN ks P k = some (atP k P) := by simp [fcN, h]
theorem fc_zero {ks : List PK} {P : Nat} {k : PK} (h : k.splits.length = 0) : fcN ks P k = none := by simp [fcN, h]
theorem fc_nohead {xs : List Pas} {P : Nat} {k : PK} (h : ¬ P < k.splits.length) (hh : (ordK (keyS P) P xs).head? = none) : fcN (xs.map Pas.k) P k = none := by
  unfold fcN
  rw [if_neg h, head_none hh]
  simp
theorem fc_lead {xs : List Pas} {P : Nat} {k : PK} {x : Pas} (h : ¬ P < k.splits.length) (h0 : k.splits.length ≠ 0) (hh : (ordK (keyS P) P xs).head? = some x) : fcN (xs.map Pas.k) P k = some (fcOf P k x.k) := by
  unfold fcN
  rw [if_neg h, if_neg h0, head_map hh]
  rfl
theorem fc_prod {a b : Int} (ha : 1 ≤ a) (ha' : a ≤ 36000) (hb : 1 ≤ b) (hb' : b ≤ 36000) : 0 ≤ 2 * a * b ∧ 2 * a * b ≤ 2592000000 := by
  have h1 : 0 ≤ a * b := Int.mul_nonneg (by omega) (by omega)
  have h2 : a * b ≤ 36000 * 36000 := Int.mul_le_mul ha' hb' (by omega) (by omega)
  rw [Int.mul_assoc]
  omega
theorem fc_pos {P : Nat} {k L : PK} (h1 : 1 ≤ atP k (k.splits.length - 1)) (h2 : 1 ≤ atP L P) (h3 : 1 ≤ atP L (k.splits.length - 1)) : 0 ≤ fcOf P k L := by
  unfold fcOf
  have : 0 ≤ 2 * atP k (k.splits.length - 1) * atP L P := Int.mul_nonneg (by omega) (by omega)
  exact Int.ediv_nonneg (by omega) (by omega)
/-- How the reference tells it: -1 where there is none. -/
def fcJ (o : Option Int) : Int := o.getD (-1)
/-- Splits in the range. -/
def OkK (k : PK) : Prop := ∀ i, i < k.splits.length → 1 ≤ atP k i ∧ atP k i ≤ 36000
theorem fc_nonneg {xs : List Pas} {P : Nat} {k : PK} (hx : ∀ p ∈ xs, OkK p.k) (hk : OkK k) {t : Int} (h : fcN (xs.map Pas.k) P k = some t) : 0 ≤ t := by
  by_cases hP : P < k.splits.length
  · rw [fc_at hP] at h
    have := hk P hP
    cases h; omega
  · by_cases h0 : k.splits.length = 0
    · rw [fc_zero h0] at h; cases h
    · cases hh : (ordK (keyS P) P xs).head? with
      | none => rw [fc_nohead hP hh] at h; cases h
      | some x =>
        rw [fc_lead hP h0 hh] at h
        cases h
        have hm : x ∈ ordK (keyS P) P xs := List.mem_of_mem_head? (by simp [hh])
        obtain ⟨hxm, hxP⟩ := ordK_mem x hm
        exact fc_pos (hk _ (by omega)).1 (hx x hxm P hxP).1 (hx x hxm _ (by omega)).1
noncomputable def fcV (ks : List PK) (p r : Int) : Int × Bool :=
  if askP ks p = true then
    match ks.find? (fun k => k.runner == r) with
    | some k => match fcN ks p.toNat k with
      | some t => (t, true)
      | none => (0, false)
    | none => (0, false)
  else (0, false)
theorem fcV_no {ks : List PK} {p r : Int} (h : askP ks p = false) : fcV ks p r = (0, false) := by simp [fcV, h]
theorem fcV_none {ks : List PK} {p r : Int} (hf : ks.find? (fun k => k.runner == r) = none) : fcV ks p r = (0, false) := by
  unfold fcV; split
  · simp only [hf]
  · rfl
theorem fcV_some {ks : List PK} {p r : Int} {k : PK} (ha : askP ks p = true) (hf : ks.find? (fun k => k.runner == r) = some k) : fcV ks p r = ((fcN ks p.toNat k).getD 0, (fcN ks p.toNat k).isSome) := by
  unfold fcV
  rw [if_pos ha]
  simp only [hf]
  cases fcN ks p.toNat k <;> rfl
/-- Who is told before a time. -/
def fcB (ks : List PK) (P : Nat) (s : Int) (q : PK) : Bool := match fcN ks P q with
  | some t => decide (t < s)
  | none => false
def xrN (ks l : List PK) (P : Nat) (s : Int) : Int := 1 + ((l.filter (fcB ks P s)).length : Int)
theorem xr_step (ks l : List PK) (P : Nat) (s : Int) (k : Nat) (h : k < l.length) : xrN ks (l.take (k + 1)) P s = xrN ks (l.take k) P s + (if fcB ks P s l[k] = true then 1 else 0) := by
  unfold xrN
  rw [List.take_succ_eq_append_getElem h, List.filter_append]
  by_cases e : fcB ks P s l[k] = true
  · simp [e]; omega
  · simp [e]
theorem xr_small (ks l : List PK) (P : Nat) (s : Int) : 1 ≤ xrN ks l P s ∧ xrN ks l P s ≤ l.length + 1 := by
  unfold xrN
  have := List.length_filter_le (fcB ks P s) l
  omega
noncomputable def xrV (ks : List PK) (p r : Int) : Int × Bool := if (fcV ks p r).2 = true then (xrN ks ks p.toNat (fcV ks p r).1, true) else (0, false)
/-- Who is not there yet, and expected before a time. -/
def nyB (ks : List PK) (P : Nat) (s : Int) (q : PK) : Bool := decide (q.splits.length ≤ P) && fcB ks P s q
noncomputable def nyV (ks : List PK) (p t : Int) : List Int := if askP ks p = true ∧ inB t 0 36000 = true then (ks.filter (nyB ks p.toNat t)).map PK.runner else []
theorem nyV_len (ks : List PK) (p t : Int) : (nyV ks p t).length ≤ 10 := by
  unfold nyV
  split
  · rename_i h
    have h1 := (goodPs_iff.1 (askP_place h.1).1).2
    have h2 := List.length_filter_le (nyB ks p.toNat t) ks
    rw [List.length_map]
    omega
  · simp
end Go.Proofs.Ytbeonigmcbipeaa
