/- Plain: the best legs. No condition. -/
import Derived.Test.YtojpklpfnmjikaaReQ
namespace Go.Proofs.Ytojpklpfnmjikaa

theorem ok_found {k : RunK} {cs : List Int} {limit : Int} (h : stV k cs limit = 0) : ∀ i (hi : i < cs.length), ∃ a : Nat, a < k.card.punches.length ∧ (foundL k.card.punches cs)[i]? = some (a : Int) := by
  intro i hi
  have hl := found_len k.card.punches cs
  have hm : (missL k.card.punches cs).length = 0 := by
    unfold stV at h
    repeat (first | (split at h) | omega)
  have hm' : missL k.card.punches cs = [] := List.eq_nil_of_length_eq_zero hm
  unfold missL at hm'
  rw [List.map_eq_nil_iff, List.filter_eq_nil_iff] at hm'
  have hi' : i < (foundL k.card.punches cs).length := by omega
  have hz := hm' (cs[i], (foundL k.card.punches cs)[i]) (by
    rw [List.mem_iff_getElem]
    exact ⟨i, by rw [List.length_zip]; omega, by simp⟩)
  simp only [decide_eq_true_eq] at hz
  rcases found_mem _ (List.getElem_mem hi') with h1 | ⟨a, ha, h1⟩
  · omega
  · exact ⟨a, ha, by rw [List.getElem?_eq_getElem hi', h1]⟩
theorem ok_card {k : RunK} {cs : List Int} {limit : Int} (h : stV k cs limit = 0) (ho : runOk k = true) : cardOk k.card = true := by
  simp only [runOk, Bool.and_eq_true] at ho
  by_cases hs : k.started = true
  · rw [if_pos hs] at ho; exact ho.2
  · have : k.started = false := by simpa using hs
    simp [stV, this] at h
/-- The time at a code, of a run that found all of them. -/
def atI (k : RunK) (cs : List Int) (i : Nat) : Nat := ((foundL k.card.punches cs)[i]?.getD 0).toNat
def timeI (k : RunK) (cs : List Int) (i : Nat) : Int := ((k.card.punches[atI k cs i]?).map Punch.time).getD 0
def fromI (k : RunK) (cs : List Int) (i : Nat) : Int := if i = 0 then k.card.start else timeI k cs (i - 1)
def legI (k : RunK) (cs : List Int) (i : Nat) : Int := timeI k cs i - fromI k cs i
theorem timeI_at {k : RunK} {cs : List Int} {i a : Nat} (ha : a < k.card.punches.length) (h : (foundL k.card.punches cs)[i]? = some (a : Int)) : timeI k cs i = k.card.punches[a].time := by
  have e : atI k cs i = a := by simp [atI, h]
  unfold timeI
  rw [e, List.getElem?_eq_getElem ha]
  rfl
theorem timeI_small {k : RunK} {cs : List Int} {limit : Int} (h : stV k cs limit = 0) (ho : runOk k = true) {i : Nat} (hi : i < cs.length) : 0 ≤ timeI k cs i ∧ timeI k cs i ≤ 36000 := by
  obtain ⟨a, ha, e⟩ := ok_found h i hi
  rw [timeI_at ha e]
  have := (cardOk_punch (ok_card h ho) _ (List.getElem_mem ha)).2.1
  rw [inB_iff] at this
  exact this
theorem fromI_small {k : RunK} {cs : List Int} {limit : Int} (h : stV k cs limit = 0) (ho : runOk k = true) {i : Nat} (hi : i < cs.length) : 0 ≤ fromI k cs i ∧ fromI k cs i ≤ 36000 := by
  unfold fromI
  split
  · exact cardOk_start (ok_card h ho)
  · exact timeI_small h ho (by omega)
/-- The least of the legs to a code. -/
def bestI (cs : List Int) (i : Nat) (l : List RunK) : Int := l.foldl (fun a k => min a (legI k cs i)) 36000
theorem bestI_snoc (cs : List Int) (i : Nat) (l : List RunK) (k : RunK) : bestI cs i (l ++ [k]) = min (bestI cs i l) (legI k cs i) := by simp [bestI]
theorem bestI_take (cs : List Int) (i : Nat) (l : List RunK) (k : Nat) (h : k < l.length) : bestI cs i (l.take (k + 1)) = min (bestI cs i (l.take k)) (legI l[k] cs i) := by
  rw [List.take_succ_eq_append_getElem h, bestI_snoc]
def okL (cs : List Int) (limit : Int) (ks : List RunK) : List RunK := ks.filter (okR cs limit)
theorem okL_take (cs : List Int) (limit : Int) (ks : List RunK) (k : Nat) (h : k < ks.length) : okL cs limit (ks.take (k + 1)) = if stV ks[k] cs limit = 0 then okL cs limit (ks.take k) ++ [ks[k]] else okL cs limit (ks.take k) := by
  unfold okL
  rw [List.take_succ_eq_append_getElem h, List.filter_append]
  by_cases e : stV ks[k] cs limit = 0 <;> simp [okR, e]
def bestsL (cs : List Int) (l : List RunK) : List Int := (List.range cs.length).map fun i => bestI cs i l
noncomputable def blB (ks : List RunK) (cs : List Int) (limit : Int) : Bool := askR ks cs limit && decide (0 < (okL cs limit ks).length)
noncomputable def blV (ks : List RunK) (cs : List Int) (limit : Int) : List Int := if blB ks cs limit = true then bestsL cs (okL cs limit ks) else []
theorem blV_len (ks : List RunK) (cs : List Int) (limit : Int) : (blV ks cs limit).length ≤ 12 := by
  unfold blV
  split
  · rename_i h
    simp only [blB, askR, Bool.and_eq_true] at h
    have h1 := h.1.1.2
    simp only [codesOk, Bool.and_eq_true, decide_eq_true_eq] at h1
    simp [bestsL]; omega
  · simp
/-- What the program's row holds behind some runs, and in the midst of one more. -/
def stL (cs : List Int) (l : List RunK) : List Int := if l = [] then List.replicate cs.length 0 else bestsL cs l
theorem stL_len (cs : List Int) (l : List RunK) : (stL cs l).length = cs.length := by unfold stL bestsL; split <;> simp
def midL (cs : List Int) (l : List RunK) (k : RunK) (i : Nat) : List Int := ((List.range i).map fun j => bestI cs j (l ++ [k])) ++ (stL cs l).drop i
theorem midL_zero (cs : List Int) (l : List RunK) (k : RunK) : midL cs l k 0 = stL cs l := by simp [midL]
theorem midL_all (cs : List Int) (l : List RunK) (k : RunK) : midL cs l k cs.length = stL cs (l ++ [k]) := by
  unfold midL
  rw [List.drop_of_length_le (by rw [stL_len]; exact Nat.le_refl _), List.append_nil]
  simp [stL, bestsL]
theorem midL_len {cs : List Int} {l : List RunK} {k : RunK} {i : Nat} (hi : i ≤ cs.length) : (midL cs l k i).length = cs.length := by
  unfold midL
  rw [List.length_append, List.length_map, List.length_range, List.length_drop, stL_len]
  omega
theorem midL_at {cs : List Int} {l : List RunK} {k : RunK} {i : Nat} (hi : i < cs.length) : (midL cs l k i)[i]'(by rw [midL_len (by omega)]; exact hi) = (stL cs l)[i]'(by rw [stL_len]; exact hi) := by
  have e : (midL cs l k i)[i]? = (stL cs l)[i]? := by
    unfold midL
    rw [List.getElem?_append_right (by simp), List.getElem?_drop]
    simp
  rw [List.getElem?_eq_getElem (by rw [midL_len (by omega)]; exact hi), List.getElem?_eq_getElem (by rw [stL_len]; exact hi)] at e
  exact Option.some.inj e
theorem midL_set {cs : List Int} {l : List RunK} {k : RunK} {i : Nat} (hi : i < cs.length) : (midL cs l k i).set i (bestI cs i (l ++ [k])) = midL cs l k (i + 1) := by
  have hd : i < (stL cs l).length := by rw [stL_len]; exact hi
  unfold midL
  have e0 : i - ((List.range i).map fun j => bestI cs j (l ++ [k])).length = 0 := by simp
  rw [List.set_append_right _ _ (by simp), e0, List.drop_eq_getElem_cons hd, List.set_cons_zero, List.range_succ, List.map_append]
  simp only [List.map_cons, List.map_nil, List.append_assoc, List.cons_append, List.nil_append]
theorem midL_first {cs : List Int} {k : RunK} {i : Nat} {leg : Int} (hleg : legI k cs i = leg) (h : leg ≤ 36000) : bestI cs i ([] ++ [k]) = leg := by
  simp [bestI, hleg]; omega
theorem midL_less {cs : List Int} {l : List RunK} {k : RunK} {i : Nat} {leg cur : Int} (hleg : legI k cs i = leg) (hl : l ≠ []) (hi : i < cs.length) (hc : (stL cs l)[i]'(by rw [stL_len]; exact hi) = cur) : bestI cs i (l ++ [k]) = if leg < cur then leg else cur := by
  have e : cur = bestI cs i l := by rw [← hc]; simp [stL, hl, bestsL]
  rw [bestI_snoc, hleg, e]
  split <;> omega
end Go.Proofs.Ytojpklpfnmjikaa
