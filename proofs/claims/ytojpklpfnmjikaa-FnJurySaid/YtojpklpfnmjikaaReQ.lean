/- Plain: what the results say. No condition. -/
import Derived.Test.YtojpklpfnmjikaaSt
namespace Go.Proofs.Ytojpklpfnmjikaa
open Go Go.RowKit

theorem runOk_times {k : RunK} (h : runOk k = true) : 0 ≤ k.card.start ∧ k.card.start ≤ 36000 ∧ -1 ≤ k.card.finish ∧ k.card.finish ≤ 36000 := by
  simp only [runOk, Bool.and_eq_true] at h
  obtain ⟨_, h⟩ := h
  by_cases hs : k.started = true
  · rw [if_pos hs] at h
    have h1 := cardOk_start h
    have h2 := cardOk_finish h
    omega
  · rw [if_neg hs] at h
    simp only [zeroCd, Bool.and_eq_true, beq_iff_eq] at h
    omega
theorem rtime_small {k : RunK} (h : runOk k = true) : -36001 ≤ rtime k ∧ rtime k ≤ 36000 := by
  have := runOk_times h
  unfold rtime
  omega
noncomputable def stoV (ks : List RunK) (cs : List Int) (limit r : Int) : Int × Bool :=
  if askR ks cs limit = true then (match ks.find? (fun k => k.runner == r) with | some k => (stV k cs limit, true) | none => (0, false)) else (0, false)
theorem stoV_none {ks : List RunK} {cs : List Int} {limit r : Int} (h : ks.find? (fun k => k.runner == r) = none) : stoV ks cs limit r = (0, false) := by simp [stoV, h]
theorem stoV_no {ks : List RunK} {cs : List Int} {limit r : Int} (h : askR ks cs limit = false) : stoV ks cs limit r = (0, false) := by simp [stoV, h]
theorem stoV_some {ks : List RunK} {cs : List Int} {limit r : Int} {k : RunK} (ha : askR ks cs limit = true) (h : ks.find? (fun k => k.runner == r) = some k) : stoV ks cs limit r = (stV k cs limit, true) := by simp [stoV, h, ha]
/-- In order. -/
def okR (cs : List Int) (limit : Int) (k : RunK) : Bool := stV k cs limit == 0
/-- The rank of a time among runs. -/
def cntT (t : Int) (l : List RunK) : Int := 1 + ((l.filter fun q => decide (rtime q < t)).length : Int)
def rkN (cs : List Int) (limit t : Int) (l : List RunK) : Int := 1 + ((l.filter fun q => okR cs limit q && decide (rtime q < t)).length : Int)
theorem cntT_step (t : Int) (l : List RunK) (k : Nat) (h : k < l.length) : cntT t (l.take (k + 1)) = cntT t (l.take k) + if rtime l[k] < t then 1 else 0 := by
  unfold cntT
  rw [List.take_succ_eq_append_getElem h, List.filter_append]
  by_cases e : rtime l[k] < t <;> simp [e] <;> omega
theorem cntT_small (t : Int) (l : List RunK) : 1 ≤ cntT t l ∧ cntT t l ≤ l.length + 1 := by
  unfold cntT
  have := List.length_filter_le (fun q => decide (rtime q < t)) l
  omega
theorem rkN_step (cs : List Int) (limit t : Int) (l : List RunK) (k : Nat) (h : k < l.length) : rkN cs limit t (l.take (k + 1)) = rkN cs limit t (l.take k) + if stV l[k] cs limit = 0 ∧ rtime l[k] < t then 1 else 0 := by
  unfold rkN
  rw [List.take_succ_eq_append_getElem h, List.filter_append]
  by_cases e : stV l[k] cs limit = 0 <;> by_cases e2 : rtime l[k] < t <;> simp [okR, e, e2] <;> omega
theorem rkN_small (cs : List Int) (limit t : Int) (l : List RunK) : 1 ≤ rkN cs limit t l ∧ rkN cs limit t l ≤ l.length + 1 := by
  unfold rkN
  have := List.length_filter_le (fun q => okR cs limit q && decide (rtime q < t)) l
  omega
theorem rkN_cnt (cs : List Int) (limit t : Int) (l : List RunK) : cntT t (l.filter (okR cs limit)) = rkN cs limit t l := by
  unfold cntT rkN
  rw [List.filter_filter]
  have : (fun a => decide (rtime a < t) && okR cs limit a) = fun q => okR cs limit q && decide (rtime q < t) := by funext q; rw [Bool.and_comm]
  rw [this]
noncomputable def rkV (ks : List RunK) (cs : List Int) (limit r : Int) : Int × Bool :=
  if askR ks cs limit = true then (match ks.find? (fun k => k.runner == r) with | some k => (if stV k cs limit = 0 then rkN cs limit (rtime k) ks else 0, true) | none => (0, false)) else (0, false)
theorem rkV_none {ks : List RunK} {cs : List Int} {limit r : Int} (h : ks.find? (fun k => k.runner == r) = none) : rkV ks cs limit r = (0, false) := by simp [rkV, h]
theorem rkV_no {ks : List RunK} {cs : List Int} {limit r : Int} (h : askR ks cs limit = false) : rkV ks cs limit r = (0, false) := by simp [rkV, h]
theorem rkV_some {ks : List RunK} {cs : List Int} {limit r : Int} {k : RunK} (ha : askR ks cs limit = true) (h : ks.find? (fun k => k.runner == r) = some k) : rkV ks cs limit r = (if stV k cs limit = 0 then rkN cs limit (rtime k) ks else 0, true) := by simp [rkV, h, ha]
/-- The least time. -/
def leastT (l : List RunK) : Int := l.foldl (fun a k => min a (rtime k)) 36000
def leastN (cs : List Int) (limit : Int) (l : List RunK) : Int := l.foldl (fun a k => if okR cs limit k then min a (rtime k) else a) 36000
theorem leastT_step (l : List RunK) (k : Nat) (h : k < l.length) : leastT (l.take (k + 1)) = min (leastT (l.take k)) (rtime l[k]) := by
  unfold leastT
  rw [List.take_succ_eq_append_getElem h, List.foldl_append]
  rfl
theorem leastN_step (cs : List Int) (limit : Int) (l : List RunK) (k : Nat) (h : k < l.length) : leastN cs limit (l.take (k + 1)) = if stV l[k] cs limit = 0 then min (leastN cs limit (l.take k)) (rtime l[k]) else leastN cs limit (l.take k) := by
  unfold leastN
  rw [List.take_succ_eq_append_getElem h, List.foldl_append]
  simp [okR]
theorem leastN_eq (cs : List Int) (limit : Int) (l : List RunK) : leastT (l.filter (okR cs limit)) = leastN cs limit l := by
  unfold leastT leastN
  rw [List.foldl_filter]
theorem leastT_small : ∀ (l : List RunK), (∀ k ∈ l, -36001 ≤ rtime k ∧ rtime k ≤ 36000) → -36001 ≤ leastT l ∧ leastT l ≤ 36000 := by
  intro l hl
  unfold leastT
  have : ∀ (l : List RunK) (a : Int), (∀ k ∈ l, -36001 ≤ rtime k ∧ rtime k ≤ 36000) → -36001 ≤ a → a ≤ 36000 → -36001 ≤ l.foldl (fun a k => min a (rtime k)) a ∧ l.foldl (fun a k => min a (rtime k)) a ≤ 36000 := by
    intro l
    induction l with
    | nil => intro a _ h1 h2; exact ⟨h1, h2⟩
    | cons k l ih =>
      intro a hl h1 h2
      have hk := hl k (by simp)
      exact ih (min a (rtime k)) (fun q hq => hl q (by simp [hq])) (by omega) (by omega)
  exact this l 36000 hl (by omega) (by omega)
/-- The times behind. -/
def tbL (cs : List Int) (limit m : Int) (ks : List RunK) : List Int := ks.map fun k => if stV k cs limit = 0 then rtime k - m else -1
noncomputable def tbV (ks : List RunK) (cs : List Int) (limit : Int) : List Int := if askR ks cs limit = true then tbL cs limit (leastN cs limit ks) ks else []
theorem tbL_step (cs : List Int) (limit m : Int) (ks : List RunK) (k : Nat) (h : k < ks.length) : (tbL cs limit m (ks.take (k + 1))).map ints = (tbL cs limit m (ks.take k)).map ints ++ [ints (if stV ks[k] cs limit = 0 then rtime ks[k] - m else -1)] := by
  unfold tbL
  rw [List.take_succ_eq_append_getElem h, List.map_append, List.map_append]
  rfl
theorem tbL_len (cs : List Int) (limit m : Int) (ks : List RunK) : (tbL cs limit m ks).length = ks.length := by simp [tbL]
/-- One more at a place. -/
def bump (l : List Int) (s : Nat) : List Int := l.set s (l.getD s 0 + 1)
theorem bump_len (l : List Int) (s : Nat) : (bump l s).length = l.length := by simp [bump]
def cntL (cs : List Int) (limit : Int) (ks : List RunK) : List Int := ks.foldl (fun l k => bump l (stV k cs limit).toNat) [0, 0, 0, 0, 0, 0]
theorem cntL_step (cs : List Int) (limit : Int) (ks : List RunK) (k : Nat) (h : k < ks.length) : cntL cs limit (ks.take (k + 1)) = bump (cntL cs limit (ks.take k)) (stV ks[k] cs limit).toNat := by
  unfold cntL
  rw [List.take_succ_eq_append_getElem h, List.foldl_append]
  rfl
theorem cntL_inv (cs : List Int) (limit : Int) (ks : List RunK) : ∀ k, k ≤ ks.length → (cntL cs limit (ks.take k)).length = 6 ∧ ∀ s, 0 ≤ (cntL cs limit (ks.take k)).getD s 0 ∧ (cntL cs limit (ks.take k)).getD s 0 ≤ k
  | 0, _ => by
    refine ⟨rfl, fun s => ?_⟩
    simp only [List.take_zero, cntL, List.foldl_nil]
    match s with
    | 0 | 1 | 2 | 3 | 4 | 5 => simp
    | s + 6 => simp
  | k + 1, h => by
    obtain ⟨h1, h2⟩ := cntL_inv cs limit ks k (by omega)
    rw [cntL_step cs limit ks k (by omega)]
    refine ⟨by rw [bump_len, h1], fun s => ?_⟩
    unfold bump
    have h3 := h2 s
    have h4 := h2 (stV ks[k] cs limit).toNat
    rw [List.getD_eq_getElem?_getD, List.getElem?_set] at *
    split
    · split
      · simp at h4 ⊢; omega
      · simp; omega
    · omega
noncomputable def cntV (ks : List RunK) (cs : List Int) (limit : Int) : List Int := if askR ks cs limit = true then cntL cs limit ks else []
theorem cntV_len (ks : List RunK) (cs : List Int) (limit : Int) : (cntV ks cs limit).length ≤ 6 := by
  unfold cntV
  split
  · have := (cntL_inv cs limit ks ks.length (Nat.le_refl _)).1
    rw [List.take_length] at this
    omega
  · simp
theorem tbV_len (ks : List RunK) (cs : List Int) (limit : Int) : (tbV ks cs limit).length ≤ 10 := by
  unfold tbV
  split
  · rename_i h
    rw [tbL_len]
    simp only [askR, Bool.and_eq_true] at h
    exact (goodRs_iff.1 h.1.1).2
  · simp
end Go.Proofs.Ytojpklpfnmjikaa
