/- Plain facts on races: what the laws ask of a step's race, of counts and of who is seen. No condition. -/
import Derived.Test.YtfmgnbkneccekaaRcD
import Derived.Test.YtfmgnbkneccekaaRcE
import Derived.Test.YtfmgnbkneccekaaStpD
namespace Go.Proofs.Ytfmgnbkneccekaa
open Go Go.RowKit

theorem step_open {k : RaceK} {s : Step} (g : GoodRace k) (h : stepB k s = true) : k.closed = false := by
  unfold stepB at h
  by_cases h1 : s.kind = 1
  · rw [if_pos h1] at h
    simp only [Bool.and_eq_true, Bool.not_eq_true'] at h
    exact h.1.1
  rw [if_neg h1] at h
  by_cases h6 : s.kind = 6
  · rw [if_pos h6] at h
    simp only [Bool.and_eq_true, Bool.not_eq_true'] at h
    exact h.1.1.1
  rw [if_neg h6] at h
  unfold entB at h
  simp only [Bool.and_eq_true] at h
  obtain ⟨hi, h2⟩ := h
  have hv := inB_iff.1 hi
  have hlt : s.entrant.toNat < k.field.length := by omega
  rw [List.getElem?_eq_getElem hlt] at h2
  have ho := entOk_iff.1 (g.2.2 _ hlt)
  generalize k.field[s.entrant.toNat] = e at h2 ho
  have hst : e.state = 0 ∨ e.state = 1 := by
    simp only at h2
    unfold entStepB at h2
    by_cases k2 : s.kind = 2
    · rw [if_pos k2] at h2
      simp only [Bool.and_eq_true, beq_iff_eq] at h2
      exact .inl h2.1
    rw [if_neg k2] at h2
    by_cases k3 : s.kind = 3
    · rw [if_pos k3] at h2
      simp only [Bool.and_eq_true, beq_iff_eq] at h2
      exact .inr h2.1.1
    rw [if_neg k3] at h2
    by_cases k4 : s.kind = 4 ∨ s.kind = 5
    · rw [if_pos k4] at h2
      simp only [Bool.and_eq_true, beq_iff_eq] at h2
      exact .inr h2.1
    rw [if_neg k4] at h2
    cases h2
  rcases ho with o | o | o | o
  · exact o.2.2
  · have := o.1; omega
  · exact o.2.1
  · have := o.1; omega
theorem step_clock {k : RaceK} {s : Step} (h : stepB k s = true) : k.clock ≤ (stepV k s).clock := by
  unfold stepV
  unfold stepB at h
  by_cases h1 : s.kind = 1
  · rw [if_pos h1] at h ⊢
    simp only [Bool.and_eq_true] at h
    have := inB_iff.1 h.2
    simp only
    omega
  rw [if_neg h1]
  by_cases h6 : s.kind = 6
  · rw [if_pos h6]; exact Int.le_refl _
  rw [if_neg h6]
  exact Int.le_refl _
theorem step_len (k : RaceK) (s : Step) : (stepV k s).field.length = k.field.length := by
  unfold stepV
  by_cases h1 : s.kind = 1
  · rw [if_pos h1]
  rw [if_neg h1]
  by_cases h6 : s.kind = 6
  · rw [if_pos h6]; simp
  rw [if_neg h6]
  simp [entV]
theorem closed_out {k : RaceK} (g : GoodRace k) (h : k.closed = true) : outL 1 k.field = [] := by
  refine List.eq_nil_iff_forall_not_mem.2 fun x hx => ?_
  obtain ⟨i, hi, _, hs⟩ := (by
    unfold outL at hx
    obtain ⟨y, hy, _⟩ := List.mem_map.1 hx
    obtain ⟨h1, h2⟩ := List.mem_filter.1 hy
    have := List.mem_zipIdx_iff_getElem?.1 h1
    obtain ⟨hl, he⟩ := List.getElem?_eq_some_iff.1 this
    exact ⟨y.2, hl, trivial, by rw [he]; simpa using h2⟩ : ∃ (i : Nat) (h : i < k.field.length), True ∧ k.field[i].state = 1)
  have ho := entOk_iff.1 (g.2.2 i hi)
  rw [hs, h] at ho
  simp at ho
theorem bump_sum : ∀ {l : List Int} {s : Nat}, s < l.length → (bump l s).sum = l.sum + 1
  | a :: l, 0, _ => by simp only [bump, List.set_cons_zero, List.getD_cons_zero, List.sum_cons]; omega
  | a :: l, s + 1, h => by
    have := bump_sum (l := l) (s := s) (by simpa using h)
    simp only [bump] at this
    simp only [bump, List.set_cons_succ, List.getD_cons_succ, List.sum_cons]
    omega
theorem cntF_len {α : Type} (f : α → Nat) (n : Nat) (ks : List α) : (cntF f n ks).length = n := by
  have := (cntF_inv f n ks ks.length (Nat.le_refl _)).1
  rwa [List.take_length] at this
theorem cntF_sum {α : Type} {f : α → Nat} {n : Nat} {ks : List α} (h : ∀ k ∈ ks, f k < n) : (cntF f n ks).sum = (ks.length : Int) := by
  have key : ∀ j, j ≤ ks.length → (cntF f n (ks.take j)).sum = (j : Int) := by
    intro j
    induction j with
    | zero => intro _; simp [cntF]
    | succ j ih =>
      intro hj
      rw [cntF_step f n ks j (by omega), bump_sum (by rw [cntF_len]; exact h _ (List.getElem_mem _)), ih (by omega)]
      omega
  have := key ks.length (Nat.le_refl _)
  rwa [List.take_length] at this
theorem bump_get (l : List Int) (t s : Nat) (h : t < l.length) : (bump l t).getD s 0 = l.getD s 0 + if t = s then 1 else 0 := by
  unfold bump
  rw [List.getD_eq_getElem?_getD, List.getElem?_set]
  by_cases e : t = s
  · subst e
    simp [h]
  · simp [e]
theorem cnt_out {es : List EntK} (h : ∀ e ∈ es, 0 ≤ e.state ∧ e.state ≤ 4) : (cntF (fun e : EntK => e.state.toNat) 5 es).getD 1 0 = ((outL 1 es).length : Int) := by
  have key : ∀ j, j ≤ es.length → (cntF (fun e : EntK => e.state.toNat) 5 (es.take j)).getD 1 0 = ((outL 1 (es.take j)).length : Int) := by
    intro j
    induction j with
    | zero => intro _; simp [cntF, outL]
    | succ j ih =>
      intro hj
      have hs := h es[j] (List.getElem_mem _)
      rw [cntF_step _ 5 es j (by omega), bump_get _ _ _ (by rw [cntF_len]; omega), ih (by omega), outL_step 1 es j (by omega)]
      by_cases e : es[j].state = 1
      · rw [if_pos e, if_pos (by rw [e]; rfl)]
        simp
      · rw [if_neg e, if_neg (by omega)]
        simp
  have := key es.length (Nat.le_refl _)
  rwa [List.take_length] at this
theorem good_states {k : RaceK} (g : GoodRace k) : ∀ e ∈ k.field, 0 ≤ e.state ∧ e.state ≤ 4 := by
  intro e he
  obtain ⟨i, hi, rfl⟩ := List.getElem_of_mem he
  exact entOk_state (g.2.2 i hi)
theorem stcV_good {k : RaceK} (h : goodRace k = true) : (stcV k).length = 5 ∧ (stcV k).sum = (k.field.length : Int) ∧ (stcV k).getD 1 0 = ((soV k).length : Int) ∧ ∀ x ∈ stcV k, 0 ≤ x ∧ x ≤ 1000 := by
  have g := goodRace_iff.1 h
  have hl := race_len h
  unfold stcV soV
  rw [if_pos h, if_pos h]
  refine ⟨cntF_len _ _ _, cntF_sum (fun e he => by have := good_states g e he; omega), cnt_out (good_states g), fun x hx => ?_⟩
  obtain ⟨i, hi, rfl⟩ := List.getElem_of_mem hx
  have h2 := (cntF_inv (fun e : EntK => e.state.toNat) 5 k.field k.field.length (Nat.le_refl _)).2 i
  rw [List.take_length, List.getD_eq_getElem?_getD, List.getElem?_eq_getElem hi] at h2
  simp only [Option.getD_some] at h2
  omega
/-- What the law FnRaces asks of a race and the one behind a step. -/
theorem races_ask {k : RaceK} {s : Step} (h : strB k s = true) : goodRace k = true ∧ goodRace (strV k s) = true ∧ k.closed = false ∧ k.clock ≤ (strV k s).clock ∧ (stcV k).sum = (stcV (strV k s)).sum ∧ ((strV k s).closed = true → soV (strV k s) = []) := by
  have hb := strB_good h
  have hg := strV_good h
  have hg' := goodRace_true hg
  have e := strV_yes h
  refine ⟨goodRace_true hb.1, hg', step_open hb.1 hb.2, by rw [e]; exact step_clock hb.2, ?_, fun hc => ?_⟩
  · rw [(stcV_good (goodRace_true hb.1)).2.1, (stcV_good hg').2.1, e, step_len]
  · unfold soV
    rw [if_pos hg']
    exact closed_out hg hc
theorem punches_from : ∀ (ps : List Punch) (fin last : Int), punchesOk fin last ps = true → ∀ p ∈ ps, last ≤ p.time
  | [], _, _, _, p, hp => by simp at hp
  | q :: ps, fin, last, h, p, hp => by
    simp only [punchesOk, Bool.and_eq_true, punchOk, decide_eq_true_eq] at h
    have hq : last ≤ q.time := by
      have h1 := h.1
      simp only [inB, Bool.and_eq_true, decide_eq_true_eq] at h1
      omega
    rcases List.mem_cons.1 hp with e | hp
    · rw [e]; exact hq
    · exact Int.le_trans hq (punches_from ps fin q.time h.2 p hp)
/-- Who is seen has started before and is seen by the clock. -/
theorem seen_ask {k : RaceK} {i : Int} (h : (lsV k i).2.2 = true) : ∃ (j : Nat) (hj : j < k.field.length), i = (j : Int) ∧ k.field[j].card.start ≤ (lsV k i).2.1 ∧ (lsV k i).2.1 ≤ k.clock := by
  unfold lsV at h ⊢
  by_cases hc : goodRace k = true ∧ 0 ≤ i ∧ i < k.field.length
  rotate_left
  · rw [if_neg hc] at h; cases h
  rw [if_pos hc] at h ⊢
  have hlt : i.toNat < k.field.length := by omega
  refine ⟨i.toNat, hlt, by omega, ?_⟩
  rw [List.getElem?_eq_getElem hlt] at h ⊢
  have ho := entOk_iff.1 ((goodRace_iff.1 hc.1).2.2 _ hlt)
  generalize k.field[i.toNat] = e at h ho ⊢
  simp only at h ⊢
  by_cases hs : e.state = 1 ∨ e.state = 3
  rotate_left
  · rw [if_neg hs] at h; cases h
  rw [if_pos hs] at h ⊢
  have hr : runningOk k.clock i.toNat e = true := by
    rcases ho with o | o | o | o
    · have := o.1; omega
    · have := o.1; omega
    · exact o.2.2
    · exact o.2
  have hr := runningOk_iff.1 hr
  have hl := latest_le.1 hr.2.2.1
  have hok := hr.1
  simp only [cardOk, Bool.and_eq_true] at hok
  have hf := punches_from _ _ _ hok.2
  cases hp : e.card.punches.getLast? with
  | none => simp only; exact ⟨Int.le_refl _, hl.1.1⟩
  | some p =>
    have hm := List.mem_of_getLast? hp
    simp only
    exact ⟨hf p hm, hl.2 p hm⟩
/-- Who is still out has been seen. -/
theorem out_seen {k : RaceK} {x : Int} (h : x ∈ soV k) : (lsV k x).2.2 = true := by
  unfold soV at h
  by_cases hg : goodRace k = true
  rotate_left
  · rw [if_neg hg] at h; cases h
  rw [if_pos hg] at h
  unfold outL at h
  obtain ⟨y, hy, rfl⟩ := List.mem_map.1 h
  obtain ⟨h1, h2⟩ := List.mem_filter.1 hy
  have := List.mem_zipIdx_iff_getElem?.1 h1
  obtain ⟨hl, he⟩ := List.getElem?_eq_some_iff.1 this
  unfold lsV
  rw [if_pos ⟨hg, by omega, by omega⟩]
  have e : ((y.2 : Nat) : Int).toNat = y.2 := rfl
  rw [e, this]
  simp only
  rw [if_pos (.inl (by simpa using h2))]
  split <;> rfl
theorem so_small {k : RaceK} {x : Int} (h : x ∈ soV k) : 0 ≤ x ∧ x ≤ 8 := by
  have hs := out_seen h
  obtain ⟨j, hj, rfl, _⟩ := seen_ask hs
  have hg : goodRace k = true := by
    by_cases hg : goodRace k = true
    · exact hg
    · unfold lsV at hs
      rw [if_neg (fun h => hg h.1)] at hs
      cases hs
  have := race_len hg
  omega
end Go.Proofs.Ytfmgnbkneccekaa
