/- Plain: the races that a runner can still take part in, and the most points with them. No condition. -/
import Derived.Test.YthhlfkeikcmnlaaZAsked
import Derived.Test.YthhlfkeikcmnlaaZLibSqz
import Derived.Test.YthhlfkeikcmnlaaZAddScore
namespace Go.Proofs.Ythhlfkeikcmnlaa

def hasR (xs : List Score) (r race : Int) : Bool := xs.any fun s => s.runner == r && s.race == race
/-- The scores of the first k races behind h that the runner has no score of. -/
def extN (xs : List Score) (r h : Int) : Nat → List Score
  | 0 => []
  | k + 1 => extN xs r h k ++ if hasR xs r (h + 1 + k) = true then [] else [⟨r, h + 1 + k, 1000⟩]
theorem extN_runner (xs : List Score) (r h : Int) : ∀ k, ∀ s ∈ extN xs r h k, s.runner = r ∧ s.race < h + 1 + k ∧ s.points = 1000
  | 0, s, hs => by simp [extN] at hs
  | k + 1, s, hs => by
    rw [extN, List.mem_append] at hs
    rcases hs with hs | hs
    · have := extN_runner xs r h k s hs
      omega
    · by_cases e : hasR xs r (h + 1 + k) = true
      · rw [if_pos e] at hs; simp at hs
      · rw [if_neg e, List.mem_singleton] at hs
        subst hs
        exact ⟨rfl, by simp only; omega, rfl⟩
theorem extN_len (xs : List Score) (r h : Int) : ∀ k, (extN xs r h k).length ≤ k
  | 0 => by simp [extN]
  | k + 1 => by
    have := extN_len xs r h k
    rw [extN, List.length_append]
    split <;> simp <;> omega
theorem ownS_append (a b : List Score) (r : Int) : ownS (a ++ b) r = ownS a r ++ ownS b r := by simp [ownS]
theorem ownS_all {a : List Score} {r : Int} (h : ∀ s ∈ a, s.runner = r) : ownS a r = a := by
  unfold ownS
  exact List.filter_eq_self.2 fun s hs => by simpa using h s hs
theorem ofS_runner (xs : List Score) (r : Int) : ∀ s ∈ ofS xs r, s.runner = r := by
  intro s hs
  have := (putAll_perm ltP (ownS xs r)).mem_iff.1 hs
  simpa [ownS] using (List.mem_filter.1 this).2
theorem ofS_perm (xs : List Score) (r : Int) : (ofS xs r).Perm (ownS xs r) := putAll_perm ltP _
theorem ptsOf_eq {a b : List Score} {r : Int} (h : (ownS a r).Perm (ownS b r)) : ptsOf a r = ptsOf b r :=
  desc_unique (ptsOf_desc _ _) (ptsOf_desc _ _) ((ptsOf_perm a r).trans ((h.map _).trans (ptsOf_perm b r).symm))
theorem tot_ext (m : Int) (xs ex : List Score) (r : Int) : totS m (ofS xs r ++ ex) r = totS m (xs ++ ex) r := by
  unfold totS
  rw [ptsOf_eq]
  rw [ownS_append, ownS_append, ownS_all (ofS_runner xs r)]
  exact (ofS_perm xs r).append_right _
theorem any_ext (xs : List Score) (r h : Int) (k : Nat) : (ofS xs r ++ extN xs r h k).any (fun s => s.race == h + 1 + k) = hasR xs r (h + 1 + k) := by
  rw [List.any_append]
  have e2 : (extN xs r h k).any (fun s => s.race == h + 1 + k) = false := by
    rw [List.any_eq_false]
    intro s hs
    have := extN_runner xs r h k s hs
    simp; omega
  rw [e2, Bool.or_false, (ofS_perm xs r).any_eq]
  unfold ownS hasR
  rw [List.any_filter]
theorem own_ext_len {n m : Int} {xs : List Score} (h : goodS n m xs = true) (r held : Int) (k : Nat) (hk : k ≤ 8) : (ownS (ofS xs r ++ extN xs r held k) r).length ≤ 20 := by
  rw [ownS_append, List.length_append, ownS_all (ofS_runner xs r)]
  have h1 := own_len h r
  have h2 := (ofS_perm xs r).length_eq
  have h3 := extN_len xs r held k
  have h4 : (ownS (extN xs r held k) r).length ≤ (extN xs r held k).length := List.length_filter_le _ _
  omega
theorem own_ext_len' {n m : Int} {xs : List Score} (h : goodS n m xs = true) (r held : Int) (k : Nat) (hk : k ≤ 8) : (ownS (xs ++ extN xs r held k) r).length ≤ 20 := by
  rw [ownS_append, List.length_append]
  have h1 := own_len h r
  have h3 := extN_len xs r held k
  have h4 : (ownS (extN xs r held k) r).length ≤ (extN xs r held k).length := List.length_filter_le _ _
  omega
theorem small_ext {xs a : List Score} (h : Small xs) (r held : Int) (k : Nat) (ha : ∀ s ∈ a, s ∈ xs) : Small (a ++ extN xs r held k) := by
  intro s hs
  rcases List.mem_append.1 hs with hs | hs
  · exact h s (ha s hs)
  · have := extN_runner xs r held k s hs
    omega
theorem ofS_sub (xs : List Score) (r : Int) : ∀ s ∈ ofS xs r, s ∈ xs := fun s hs => (List.mem_filter.1 ((ofS_perm xs r).mem_iff.1 hs)).1
noncomputable def mostB (n m : Int) (xs : List Score) (r h : Int) : Bool := askS n m xs r && inB h 0 n
noncomputable def mostV (n m : Int) (xs : List Score) (r h : Int) : Int := if mostB n m xs r h = true then totS m (xs ++ extN xs r h (n - h).toNat) r else 0
end Go.Proofs.Ythhlfkeikcmnlaa
/- Plain: the runners of scores, equal neighbours struck; ranks. No condition. -/
namespace Go.Proofs.Ythhlfkeikcmnlaa

/-- The runners of scores. -/
def runsS (xs : List Score) : List Int := squeeze (xs.map Score.runner)
theorem runsS_len (xs : List Score) : (runsS xs).length ≤ xs.length := by
  have := squeeze_len (xs.map Score.runner)
  simpa [runsS] using this
theorem runsS_take (xs : List Score) (k : Nat) (h : k < xs.length) : runsS (xs.take (k + 1)) = if 0 < k ∧ (xs[k - 1]?).map Score.runner = some xs[k].runner then runsS (xs.take k) else runsS (xs.take k) ++ [xs[k].runner] := by
  have := squeeze_take (xs.map Score.runner) k (by simpa using h)
  unfold runsS
  rw [List.map_take, this, List.map_take]
  simp
theorem mem_runsS {xs : List Score} {r : Int} : r ∈ runsS xs ↔ ∃ s ∈ xs, s.runner = r := by
  unfold runsS
  rw [squeeze_mem, List.mem_map]
theorem good_runner {n m : Int} {xs : List Score} (h : goodS n m xs = true) : ∀ s ∈ xs, 1 ≤ s.runner ∧ s.runner ≤ 999 := by
  intro s hs
  obtain ⟨k, hk, rfl⟩ := List.getElem_of_mem hs
  have := ((goodS_iff.1 h).2.2.1 k hk).1.1
  rw [inB_iff] at this
  exact this
theorem runsS_asc {n m : Int} {xs : List Score} (h : goodS n m xs = true) : Asc (runsS xs) := by
  refine squeeze_asc ?_
  rw [List.pairwise_map]
  exact (good_lex h).imp fun {a b} hl => by unfold Lex at hl; omega
/-- How many stand before. -/
def rankS (xs : List Score) (m r : Int) (l : List Int) : Int := 1 + ((l.filter fun o => decide (cmpStand xs m o r < 0)).length : Int)
theorem rankS_step (xs : List Score) (m r : Int) (l : List Int) (k : Nat) (h : k < l.length) : rankS xs m r (l.take (k + 1)) = rankS xs m r (l.take k) + (if cmpStand xs m l[k] r < 0 then 1 else 0) := by
  unfold rankS
  rw [List.take_succ_eq_append_getElem h, List.filter_append]
  by_cases e : cmpStand xs m l[k] r < 0
  · simp [e]; omega
  · simp [e]
theorem rankS_small (xs : List Score) (m r : Int) (l : List Int) : 1 ≤ rankS xs m r l ∧ rankS xs m r l ≤ l.length + 1 := by
  unfold rankS
  have := List.length_filter_le (fun o => decide (cmpStand xs m o r < 0)) l
  omega
noncomputable def rankV (n m : Int) (xs : List Score) (r : Int) : Int := if askS n m xs r = true then rankS xs m r (runsS xs) else 0
end Go.Proofs.Ythhlfkeikcmnlaa
/- Plain: the points that are needed to stand alone at the head. No condition. -/
namespace Go.Proofs.Ythhlfkeikcmnlaa

/-- With these points the runner stands before all others. -/
noncomputable def leadsB (m : Int) (xs : List Score) (r race : Int) (p : Nat) : Bool := (runsS xs).all fun a => a == r || decide (cmpStand (addS xs ⟨r, race, p⟩) m r a < 0)
theorem leads_mono {m : Int} {xs : List Score} {r race : Int} {p q : Nat} (hpq : p ≤ q) (h : leadsB m xs r race p = true) : leadsB m xs r race q = true := by
  unfold leadsB at *
  rw [List.all_eq_true] at *
  intro a ha
  have := h a ha
  simp only [Bool.or_eq_true, beq_iff_eq, decide_eq_true_eq] at *
  rcases this with e | e
  · exact .inl e
  · by_cases hr : a = r
    · exact .inl hr
    · exact .inr (stand_mono xs m r race p q a hr (by omega) e)
/-- The first of the numbers below n at which it holds (n if there is none). -/
def firstT (f : Nat → Bool) : Nat → Nat
  | 0 => 0
  | n + 1 => if firstT f n < n then firstT f n else if f n = true then n else n + 1
theorem firstT_spec (f : Nat → Bool) : ∀ n, firstT f n ≤ n ∧ (∀ q, q < firstT f n → f q = false) ∧ (firstT f n < n → f (firstT f n) = true)
  | 0 => ⟨Nat.le_refl _, fun q h => absurd h (by simp [firstT]), fun h => absurd h (by simp [firstT])⟩
  | n + 1 => by
    obtain ⟨h1, h2, h3⟩ := firstT_spec f n
    unfold firstT
    split
    · rename_i h
      exact ⟨by omega, h2, fun _ => h3 h⟩
    · rename_i h
      have e : firstT f n = n := by omega
      rw [e] at h2
      split
      · rename_i hf
        exact ⟨by omega, h2, fun _ => hf⟩
      · rename_i hf
        refine ⟨Nat.le_refl _, fun q hq => ?_, fun h => absurd h (by omega)⟩
        by_cases eq : q = n
        · subst eq; simpa using hf
        · exact h2 q (by omega)
theorem firstT_is {f : Nat → Bool} {n k : Nat} (hk : k ≤ n) (h1 : ∀ q, q < k → f q = false) (h2 : k < n → f k = true) : firstT f n = k := by
  obtain ⟨a, b, c⟩ := firstT_spec f n
  rcases Nat.lt_trichotomy (firstT f n) k with h | h | h
  · have := c (by omega); rw [h1 _ h] at this; cases this
  · exact h
  · have := b k h; rw [h2 (by omega)] at this; cases this
noncomputable def needN (m : Int) (xs : List Score) (r race : Int) : Nat := firstT (leadsB m xs r race) 1001
noncomputable def needG (n m : Int) (xs : List Score) (r race : Int) : Bool := askS n m xs r && goodS n m (addS xs ⟨r, race, 0⟩)
noncomputable def needB (n m : Int) (xs : List Score) (r race : Int) : Bool := needG n m xs r race && decide (needN m xs r race ≤ 1000)
noncomputable def needV (n m : Int) (xs : List Score) (r race : Int) : Int := if needB n m xs r race = true then needN m xs r race else 0
theorem addAt_points (xs : List Score) (r race p q : Int) : addAt xs ⟨r, race, p⟩ = addAt xs ⟨r, race, q⟩ := rfl
theorem insAt_get {α : Type} (xs : List α) (i : Nat) (x : α) (hi : i ≤ xs.length) (k : Nat) : (insAt xs i x)[k]? = if k < i then xs[k]? else if k = i then some x else xs[k - 1]? := by
  unfold insAt
  have hl : (xs.take i).length = i := by simp; omega
  by_cases h1 : k < i
  · rw [List.getElem?_append_left (by omega), List.getElem?_take, if_pos h1, if_pos h1]
  · rw [List.getElem?_append_right (by omega), hl, if_neg h1]
    by_cases h2 : k = i
    · subst h2; simp
    · rw [if_neg h2]
      obtain ⟨j, hj⟩ : ∃ j, k - i = j + 1 := ⟨k - i - 1, by omega⟩
      rw [hj, List.getElem?_cons_succ, List.getElem?_drop]
      congr 1
      omega
/-- Whether the list with one more score is valid does not hang on the points, within bounds. -/
theorem good_points {n m : Int} {xs : List Score} {r race p q : Int} (hp : 0 ≤ p ∧ p ≤ 1000) (hq : 0 ≤ q ∧ q ≤ 1000) (h : goodS n m (addS xs ⟨r, race, p⟩) = true) : goodS n m (addS xs ⟨r, race, q⟩) = true := by
  rw [goodS_iff] at *
  obtain ⟨h1, h2, h3, h4⟩ := h
  have hl : (addS xs ⟨r, race, p⟩).length = (addS xs ⟨r, race, q⟩).length := by
    rw [(addS_perm xs _).length_eq, (addS_perm xs _).length_eq]; simp
  have hle := addAt_le xs ⟨r, race, p⟩
  have hg : ∀ k (hk : k < (addS xs ⟨r, race, p⟩).length) (hk' : k < (addS xs ⟨r, race, q⟩).length), (addS xs ⟨r, race, p⟩)[k].runner = (addS xs ⟨r, race, q⟩)[k].runner ∧ (addS xs ⟨r, race, p⟩)[k].race = (addS xs ⟨r, race, q⟩)[k].race ∧ (inB (addS xs ⟨r, race, p⟩)[k].points 0 1000 = true → inB (addS xs ⟨r, race, q⟩)[k].points 0 1000 = true) := by
    intro k hk hk'
    have f1 : (if k < addAt xs ⟨r, race, p⟩ then xs[k]? else if k = addAt xs ⟨r, race, p⟩ then some ⟨r, race, p⟩ else xs[k - 1]?) = some (addS xs ⟨r, race, p⟩)[k] :=
      (insAt_get xs (addAt xs ⟨r, race, p⟩) ⟨r, race, p⟩ hle k).symm.trans (List.getElem?_eq_getElem hk)
    have f2' : (if k < addAt xs ⟨r, race, p⟩ then xs[k]? else if k = addAt xs ⟨r, race, p⟩ then some ⟨r, race, q⟩ else xs[k - 1]?) = some (addS xs ⟨r, race, q⟩)[k] :=
      (insAt_get xs (addAt xs ⟨r, race, p⟩) ⟨r, race, q⟩ hle k).symm.trans (List.getElem?_eq_getElem hk')
    generalize (addS xs ⟨r, race, p⟩)[k] = a at *
    generalize (addS xs ⟨r, race, q⟩)[k] = b at *
    split at f1
    · rename_i hh
      rw [if_pos hh] at f2'
      rw [f1] at f2'
      have : a = b := by simpa using f2'
      subst this
      exact ⟨rfl, rfl, id⟩
    · rename_i hh
      rw [if_neg hh] at f2'
      split at f1
      · rename_i hh2
        rw [if_pos hh2] at f2'
        obtain rfl : (⟨r, race, p⟩ : Score) = a := by simpa using f1
        obtain rfl : (⟨r, race, q⟩ : Score) = b := by simpa using f2'
        exact ⟨rfl, rfl, fun _ => by rw [inB_iff]; exact hq⟩
      · rename_i hh2
        rw [if_neg hh2] at f2'
        rw [f1] at f2'
        have : a = b := by simpa using f2'
        subst this
        exact ⟨rfl, rfl, id⟩
  refine ⟨h1, h2, fun k hk => ?_, by omega⟩
  have hk0 : k < (addS xs ⟨r, race, p⟩).length := by omega
  obtain ⟨g1, g2, g3⟩ := hg k hk0 hk
  obtain ⟨⟨a1, a2, a3⟩, a4⟩ := h3 k hk0
  refine ⟨⟨by rw [← g1]; exact a1, by rw [← g2]; exact a2, g3 a3⟩, fun h0 => ?_⟩
  have hk1 : k - 1 < (addS xs ⟨r, race, p⟩).length := by omega
  obtain ⟨b1, b2, _⟩ := hg (k - 1) hk1 (by omega)
  have := a4 h0
  rw [g1, g2, b1, b2] at this
  exact this
end Go.Proofs.Ythhlfkeikcmnlaa
/- Plain: the standings of a series. No condition. -/
namespace Go.Proofs.Ythhlfkeikcmnlaa

theorem cmpI_neg (x y : Int) : cmpI y x = - cmpI x y := by unfold cmpI; grind
theorem cmpL_neg : ∀ (p q : List Int), cmpL q p = - cmpL p q
  | [], [] => rfl
  | [], _ :: _ => rfl
  | _ :: _, [] => rfl
  | x :: xs, y :: ys => by
    simp only [cmpL]
    rw [cmpI_neg x y, cmpL_neg xs ys]
    by_cases h : cmpI x y = 0
    · rw [if_pos h, if_pos (by omega)]
    · rw [if_neg h, if_neg (by omega)]
theorem orI_neg (x y : Int) : orI (-x) (-y) = - orI x y := by
  unfold orI
  by_cases h : x = 0
  · rw [if_pos h, if_pos (by omega)]
  · rw [if_neg h, if_neg (by omega)]
theorem cmpL_tr : ∀ (p q r : List Int), cmpL p q ≤ 0 → cmpL q r ≤ 0 → cmpL p r ≤ 0
  | [], q, [], _, _ => by simp [cmpL]
  | [], q, _ :: _, _, _ => by simp [cmpL]
  | x :: xs, [], r, h, _ => by simp [cmpL] at h
  | x :: xs, y :: ys, [], _, h => by simp [cmpL] at h
  | x :: xs, y :: ys, z :: zs, h1, h2 => by
    have ih := cmpL_tr xs ys zs
    simp only [cmpL] at h1 h2 ⊢
    unfold cmpI at *
    grind
theorem or_le {x y t : Int} : orI (cmpI x y) t ≤ 0 ↔ x < y ∨ (x = y ∧ t ≤ 0) := by
  unfold orI cmpI
  by_cases h1 : x < y
  · simp [h1]
  · by_cases h2 : y < x
    · simp [h1, h2]; omega
    · have : x = y := by omega
      simp [this]
theorem cmpStand_cmp (xs : List Score) (m : Int) : Cmp (cmpStand xs m) where
  neg := fun a b => by
    unfold cmpStand
    rw [cmpI_neg (totS m xs b) (totS m xs a), cmpL_neg (ptsOf xs b) (ptsOf xs a), orI_neg]
  tr := fun a b c h1 h2 => by
    have h3 := cmpL_tr (ptsOf xs c) (ptsOf xs b) (ptsOf xs a)
    unfold cmpStand at *
    rw [or_le] at *
    rcases h1 with h1 | ⟨h1, h1'⟩ <;> rcases h2 with h2 | ⟨h2, h2'⟩
    · exact .inl (by omega)
    · exact .inl (by omega)
    · exact .inl (by omega)
    · exact .inr ⟨by omega, h3 h2' h1'⟩
noncomputable def stdV (n m : Int) (xs : List Score) : List Int := if goodS n m xs = true then putAll (ltC (cmpStand xs m)) (runsS xs) else []
theorem stdV_len (n m : Int) (xs : List Score) : (stdV n m xs).length ≤ 40 := by
  unfold stdV
  split
  · rename_i h
    rw [putAll_len]
    have h1 := good_len h
    have h2 := runsS_len xs
    omega
  · simp
end Go.Proofs.Ythhlfkeikcmnlaa
