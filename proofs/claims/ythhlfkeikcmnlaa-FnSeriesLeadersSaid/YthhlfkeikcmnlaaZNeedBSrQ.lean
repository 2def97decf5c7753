/- Plain: one more score of a runner who has one leaves the runners as they are. No condition. -/
import Derived.Test.YthhlfkeikcmnlaaZNeedA
import Derived.Test.YthhlfkeikcmnlaaZMostQStdQ
import Derived.Test.YthhlfkeikcmnlaaZCount
namespace Go.Proofs.Ythhlfkeikcmnlaa

theorem mem_of_ask {n m : Int} {xs : List Score} {r : Int} (h : askS n m xs r = true) : ∃ s ∈ xs, s.runner = r := by
  have h1 := (ask_iff.1 h).2
  obtain ⟨s, hs⟩ := List.exists_mem_of_length_pos h1
  have hs' : s ∈ ownS xs r := (putAll_perm _ _).mem_iff.1 hs
  have h2 := List.mem_filter.1 hs'
  exact ⟨s, h2.1, by simpa using h2.2⟩
theorem runsS_add {n m : Int} {xs : List Score} {r race p : Int} (hr : ∃ s ∈ xs, s.runner = r) (h1 : goodS n m xs = true) (h2 : goodS n m (addS xs ⟨r, race, p⟩) = true) : runsS (addS xs ⟨r, race, p⟩) = runsS xs := by
  refine asc_ext (runsS_asc h2) (runsS_asc h1) (fun a => ?_)
  rw [mem_runsS, mem_runsS]
  constructor
  · rintro ⟨s, hs, rfl⟩
    rcases List.mem_cons.1 ((addS_perm xs _).mem_iff.1 hs) with rfl | hs
    · exact hr
    · exact ⟨s, hs, rfl⟩
  · rintro ⟨s, hs, rfl⟩
    exact ⟨s, (addS_perm xs _).mem_iff.2 (List.mem_cons_of_mem _ hs), rfl⟩
end Go.Proofs.Ythhlfkeikcmnlaa
/- NeededToLead, the program's. No condition. -/
namespace Go.Proofs.Ythhlfkeikcmnlaa
open Go Go.RowKit

theorem leads_any {m : Int} {x : List Score} {r race : Int} {p : Nat} : (runsS x).any (noLead m (addS x ⟨r, race, p⟩) r) = !leadsB m x r race p := by
  unfold leadsB noLead
  induction runsS x with
  | nil => rfl
  | cons a l ih =>
    rw [List.any_cons, List.all_cons, ih]
    cases h1 : (a == r) <;> by_cases h2 : cmpStand (addS x ⟨r, race, p⟩) m r a < 0 <;> simp [bne, h1, h2] <;> omega
theorem need_ok {n m : Int} {x : List Score} {r race : Int} {k : Nat} (ha : askS n m x r = true) (hk : k ≤ 1000) : goodS n m (addS x ⟨r, race, (k : Int)⟩) = needG n m x r race := by
  unfold needG
  rw [ha, Bool.true_and, Bool.eq_iff_iff]
  exact ⟨fun h => good_points ⟨by omega, by omega⟩ ⟨by omega, by omega⟩ h, fun h => good_points ⟨by omega, by omega⟩ ⟨by omega, by omega⟩ h⟩
theorem need_at {n m : Int} {x : List Score} {r race : Int} {k : Nat} (hg : needG n m x r race = true) (hb : ∀ q, q < k → leadsB m x r race q = false) (hk : k ≤ 1000) (h : leadsB m x r race k = true) : needV n m x r race = k ∧ needB n m x r race = true := by
  have h1 : needN m x r race = k := firstT_is (by omega) hb (fun _ => h)
  have h2 : needB n m x r race = true := by simp [needB, hg, h1, hk]
  exact ⟨by simp [needV, h2, h1], h2⟩
theorem need_none {n m : Int} {x : List Score} {r race : Int} (hb : ∀ q, q < 1001 → leadsB m x r race q = false) : needV n m x r race = 0 ∧ needB n m x r race = false := by
  have h1 : needN m x r race = 1001 := firstT_is (Nat.le_refl _) hb (fun h => absurd h (by omega))
  have h2 : needB n m x r race = false := by simp [needB, h1]
  exact ⟨by simp [needV, h2], h2⟩
theorem need_bad {n m : Int} {x : List Score} {r race : Int} (hg : needG n m x r race = false) : needV n m x r race = 0 ∧ needB n m x r race = false := by
  have h2 : needB n m x r race = false := by simp [needB, hg]
  exact ⟨by simp [needV, h2], h2⟩
theorem need_unasked {n m : Int} {x : List Score} {r race : Int} (ha : askS n m x r = false) : needV n m x r race = 0 ∧ needB n m x r race = false := need_bad (by simp [needG, ha])
end Go.Proofs.Ythhlfkeikcmnlaa
/- Plain: ranks follow standings; what counts; what is possible. No condition. -/
namespace Go.Proofs.Ythhlfkeikcmnlaa

section
variable {cf : Int → Int → Int}
theorem cmp_lt_of (C : Cmp cf) {o a b : Int} (h1 : cf o a < 0) (h2 : cf a b ≤ 0) : cf o b < 0 := by
  rcases Int.lt_or_le (cf o b) 0 with h | h
  · exact h
  · have h3 := C.neg o b
    have h4 := C.tr a b o h2 (by omega)
    have h5 := C.neg a o
    omega
theorem ordC (C : Cmp cf) : Ord (ltC cf) :=
  ⟨fun x y h => by have := C.neg x y; simp [ltC] at *; omega, fun x y z h1 h2 => by
    simp only [ltC, decide_eq_false_iff_not] at *
    have := C.tr x y z (by have := C.neg x y; omega) (by have := C.neg y z; omega)
    have := C.neg x z
    omega⟩
/-- How many stand before, in an ordered list. -/
def befN (cf : Int → Int → Int) (l : List Int) (r : Int) : Nat := (l.filter fun o => decide (cf o r < 0)).length
theorem befN_le {l : List Int} (hs : l.Pairwise fun a b => cf a b ≤ 0) (C : Cmp cf) {i : Nat} (hi : i < l.length) : befN cf l l[i] ≤ i := by
  have hself : ∀ a, cf a a = 0 := fun a => by have := C.neg a a; omega
  unfold befN
  obtain ⟨x, hx⟩ : ∃ x, x = l[i] := ⟨_, rfl⟩
  rw [← hx]
  conv => lhs; rw [← List.take_append_drop i l, List.filter_append, List.length_append]
  have h2 : (l.drop i).filter (fun o => decide (cf o x < 0)) = [] := by
    rw [List.filter_eq_nil_iff]
    intro o ho
    obtain ⟨j, hj, rfl⟩ := List.getElem_of_mem ho
    simp only [List.length_drop] at hj
    simp only [List.getElem_drop, decide_eq_true_eq]
    by_cases e : j = 0
    · subst e
      have := hself l[i]
      simp only [Nat.add_zero, hx]; omega
    · have h1 := List.pairwise_iff_getElem.1 hs i (i + j) hi (by omega) (by omega)
      have := C.neg l[i] (l[i + j]'(by omega))
      rw [hx]
      omega
  rw [h2, List.length_nil, Nat.add_zero]
  exact Nat.le_trans (List.length_filter_le _ _) (by simp; omega)
theorem befN_mono {l : List Int} (C : Cmp cf) {a b : Int} (h : cf a b ≤ 0) : befN cf l a ≤ befN cf l b := by
  unfold befN
  rw [← List.countP_eq_length_filter, ← List.countP_eq_length_filter]
  refine List.countP_mono_left fun o _ ho => ?_
  simp only [decide_eq_true_eq] at ho ⊢
  exact cmp_lt_of C ho h
end
noncomputable def stdL (m : Int) (xs : List Score) : List Int := putAll (ltC (cmpStand xs m)) (runsS xs)
theorem stdV_eq {n m : Int} {xs : List Score} (g : goodS n m xs = true) : stdV n m xs = stdL m xs := by unfold stdV; rw [if_pos g]; rfl
theorem stdL_perm (m : Int) (xs : List Score) : (stdL m xs).Perm (runsS xs) := putAll_perm _ _
theorem stdL_len (m : Int) (xs : List Score) : (stdL m xs).length = (runsS xs).length := putAll_len _ _
theorem stdL_sorted (m : Int) (xs : List Score) : (stdL m xs).Pairwise fun a b => cmpStand xs m a b ≤ 0 :=
  (putAll_ordered (ordC (cmpStand_cmp xs m)) (runsS xs)).imp fun {a b} h => by
    simp only [ltC, decide_eq_false_iff_not] at h
    have := (cmpStand_cmp xs m).neg a b
    omega
theorem rankS_bef (xs : List Score) (m r : Int) : rankS xs m r (runsS xs) = 1 + (befN (cmpStand xs m) (stdL m xs) r : Int) := by
  unfold rankS befN
  rw [((stdL_perm m xs).filter _).length_eq]
theorem stdL_nodup {n m : Int} {xs : List Score} (g : goodS n m xs = true) : (stdL m xs).Nodup :=
  (stdL_perm m xs).nodup_iff.2 (by
    rw [List.nodup_iff_pairwise_ne]
    exact (runsS_asc g).imp fun {a b} h => by omega)
theorem ask_of_mem {n m : Int} {xs : List Score} {r : Int} (g : goodS n m xs = true) (h : r ∈ stdL m xs) : askS n m xs r = true := by
  rw [ask_iff]
  refine ⟨g, ?_⟩
  obtain ⟨s, hs, rfl⟩ := mem_runsS.1 ((stdL_perm m xs).mem_iff.1 h)
  have h1 : s ∈ ownS xs s.runner := List.mem_filter.2 ⟨hs, by simp⟩
  have h2 : s ∈ ofS xs s.runner := (putAll_perm _ _).mem_iff.2 h1
  exact List.length_pos_of_mem h2
theorem stdL_bd {n m : Int} {xs : List Score} (g : goodS n m xs = true) : ∀ r ∈ stdL m xs, 1 ≤ r ∧ r ≤ 999 := by
  intro r hr
  obtain ⟨s, hs, rfl⟩ := mem_runsS.1 ((stdL_perm m xs).mem_iff.1 hr)
  exact good_runner g s hs
theorem rankV_of {n m : Int} {xs : List Score} {r : Int} (h : askS n m xs r = true) : rankV n m xs r = 1 + (befN (cmpStand xs m) (stdL m xs) r : Int) := by
  unfold rankV
  rw [if_pos h, rankS_bef]
theorem totV_of {n m : Int} {xs : List Score} {r : Int} (h : askS n m xs r = true) : totV n m xs r = totS m xs r := by unfold totV; rw [if_pos h]
/-- One after the other in the standings. -/
theorem std_at {n m : Int} {xs : List Score} (g : goodS n m xs = true) {i : Nat} (hi : i < (stdL m xs).length) :
    1 ≤ rankV n m xs (stdL m xs)[i] ∧ rankV n m xs (stdL m xs)[i] ≤ i + 1 := by
  rw [rankV_of (ask_of_mem g (List.getElem_mem hi))]
  have := befN_le (stdL_sorted m xs) (cmpStand_cmp xs m) hi
  omega
theorem std_next {n m : Int} {xs : List Score} (g : goodS n m xs = true) {i : Nat} (hi : i + 1 < (stdL m xs).length) :
    rankV n m xs ((stdL m xs)[i]'(by omega)) ≤ rankV n m xs (stdL m xs)[i + 1] ∧ totV n m xs (stdL m xs)[i + 1] ≤ totV n m xs ((stdL m xs)[i]'(by omega)) := by
  have hc := List.pairwise_iff_getElem.1 (stdL_sorted m xs) i (i + 1) (by omega) hi (by omega)
  rw [rankV_of (ask_of_mem g (List.getElem_mem _)), rankV_of (ask_of_mem g (List.getElem_mem _)), totV_of (ask_of_mem g (List.getElem_mem _)), totV_of (ask_of_mem g (List.getElem_mem _))]
  have h1 := befN_mono (l := stdL m xs) (cmpStand_cmp xs m) hc
  refine ⟨by omega, ?_⟩
  unfold cmpStand at hc
  rw [or_le] at hc
  omega
/-! ### What counts -/
theorem sumTop_take (m : Int) (l : List Int) : sumTop m l = (l.take m.toNat).sum := rfl
theorem perm_sum {a b : List Int} (h : a.Perm b) : a.sum = b.sum := by
  induction h with
  | nil => rfl
  | cons x _ ih => simp [ih]
  | swap x y l => simp; omega
  | trans _ _ h1 h2 => exact h1.trans h2
/-- The points of what counts, added up as the list goes. -/
def cntSum (c : List Int) (r : Int) (xs : List Score) : Int := ((xs.filter fun s => s.runner == r && decide (s.race ∈ c)).map Score.points).sum
theorem cntSum_step (c : List Int) (r : Int) (xs : List Score) (k : Nat) (h : k < xs.length) : cntSum c r (xs.take (k + 1)) = cntSum c r (xs.take k) + (if xs[k].runner = r ∧ xs[k].race ∈ c then xs[k].points else 0) := by
  unfold cntSum
  rw [List.take_succ_eq_append_getElem h, List.filter_append, List.map_append, List.sum_append]
  by_cases e : xs[k].runner = r ∧ xs[k].race ∈ c
  · simp [e]
  · rw [if_neg e]
    rw [List.filter_cons_of_neg (by simpa using fun h1 h2 => e ⟨h1, h2⟩)]
    simp
theorem cnt_total {n m : Int} {xs : List Score} {r : Int} (h : askS n m xs r = true) : cntSum (cntS n m xs r) r xs = totV n m xs r := by
  have g := (ask_iff.1 h).1
  rw [totV_of h]
  unfold cntSum totS
  have e1 : xs.filter (fun s => s.runner == r && decide (s.race ∈ cntS n m xs r)) = (ownS xs r).filter fun s => decide (s.race ∈ cntS n m xs r) := by
    unfold ownS; rw [List.filter_filter]
    congr 1
    funext s
    rw [Bool.and_comm]
  rw [e1, perm_sum ((((putAll_perm ltP (ownS xs r)).symm.filter fun s => decide (s.race ∈ cntS n m xs r)).map Score.points))]
  show (((ofS xs r).filter fun s => decide (s.race ∈ cntS n m xs r)).map Score.points).sum = _
  have hnd : ((ofS xs r).map Score.race).Nodup := by
    have h1 : ((ownS xs r).map Score.race).Nodup := (own_asc g r).imp fun hab => by omega
    exact (((putAll_perm ltP (ownS xs r)).map Score.race).nodup_iff).2 h1
  have hc : ∀ x, x ∈ cntS n m xs r ↔ x ∈ ((ofS xs r).take m.toNat).map Score.race := fun x => by
    unfold cntS
    rw [if_pos h, (putUs_ok _).2]
    rfl
  rw [← List.take_append_drop m.toNat (ofS xs r)] at hnd ⊢
  rw [List.map_append, List.nodup_append] at hnd
  rw [List.filter_append, List.filter_eq_self.2 (fun s hs => by
      rw [decide_eq_true_eq, hc]
      exact List.mem_map.2 ⟨s, by simpa using hs, rfl⟩), List.filter_eq_nil_iff.2 (fun s hs => by
      rw [decide_eq_true_eq, hc]
      intro hm
      exact hnd.2.2 s.race (by simpa using hm) s.race (List.mem_map.2 ⟨s, hs, rfl⟩) rfl), List.append_nil]
  unfold sumTop ptsOf
  rw [List.map_take]
theorem cntS_best {n m : Int} {xs : List Score} {r : Int} (h : askS n m xs r = true) : ((cntS n m xs r).length : Int) ≤ m := by
  have g := (ask_iff.1 h).1
  have hm := (goodS_iff.1 g).2.1
  rw [inB_iff] at hm
  unfold cntS
  rw [if_pos h]
  have h1 := putUs_len (cntL m xs r)
  have h2 : (cntL m xs r).length ≤ m.toNat := by unfold cntL; simp; omega
  omega
/-! ### What is possible -/
theorem take_drop1 : ∀ {l : List Int} {x : Int} (n : Nat), Desc (x :: l) → (∀ y ∈ x :: l, 0 ≤ y) → (l.take n).sum ≤ ((x :: l).take n).sum
  | _, _, 0, _, _ => by simp
  | [], x, n + 1, _, h => by have := h x (by simp); simp; omega
  | y :: ys, x, n + 1, hd, h => by
    have h1 := List.pairwise_cons.1 hd
    have ih := take_drop1 n h1.2 (fun z hz => h z (by simp [hz]))
    have h2 := h1.1 y (by simp)
    simp only [List.take_succ_cons, List.sum_cons] at ih ⊢
    omega
theorem sum_insD {p : Int} (hp : 0 ≤ p) : ∀ (l : List Int) (n : Nat), Desc l → (∀ y ∈ l, 0 ≤ y) → (l.take n).sum ≤ ((insD p l).take n).sum
  | [], n, _, _ => by cases n <;> simp [insD]; exact hp
  | x :: xs, 0, _, _ => by simp
  | x :: xs, n + 1, hd, h => by
    unfold insD
    split
    · rename_i hx
      have := take_drop1 n hd h
      simp only [List.take_succ_cons, List.sum_cons] at this ⊢
      omega
    · have h1 := List.pairwise_cons.1 hd
      have := sum_insD hp xs n h1.2 (fun z hz => h z (by simp [hz]))
      simp only [List.take_succ_cons, List.sum_cons]
      omega
theorem pts_push (xs : List Score) (s : Score) : ptsOf (xs ++ [s]) s.runner = insD s.points (ptsOf xs s.runner) := by
  rw [← pts_same]
  refine ptsOf_eq ?_
  have h1 : (addS xs s).Perm (xs ++ [s]) := (addS_perm xs s).trans (List.perm_append_singleton s xs).symm
  exact (h1.filter _).symm
theorem ptsOf_small {xs : List Score} (h : ∀ s ∈ xs, 0 ≤ s.points ∧ s.points ≤ 1000) (r : Int) : ∀ y ∈ ptsOf xs r, 0 ≤ y ∧ y ≤ 1000 := by
  intro y hy
  obtain ⟨s, hs, rfl⟩ := List.mem_map.1 hy
  exact h s (ofS_sub xs r s hs)
theorem tot_ext_le (m : Int) (xs : List Score) (r h : Int) (hx : ∀ s ∈ xs, 0 ≤ s.points ∧ s.points ≤ 1000) : ∀ k, totS m xs r ≤ totS m (xs ++ extN xs r h k) r ∧ (∀ s ∈ xs ++ extN xs r h k, 0 ≤ s.points ∧ s.points ≤ 1000)
  | 0 => by simpa [extN] using hx
  | k + 1 => by
    obtain ⟨h1, h2⟩ := tot_ext_le m xs r h hx k
    rw [extN]
    split
    · rw [List.append_nil]; exact ⟨h1, h2⟩
    · rw [← List.append_assoc]
      refine ⟨?_, fun s hs => ?_⟩
      · have h3 := pts_push (xs ++ extN xs r h k) ⟨r, h + 1 + k, 1000⟩
        simp only at h3
        have h4 := sum_insD (p := 1000) (by omega) (ptsOf (xs ++ extN xs r h k) r) m.toNat (ptsOf_desc _ _) (fun y hy => (ptsOf_small h2 r y hy).1)
        unfold totS sumTop at h1 ⊢
        rw [h3]
        omega
      · rcases List.mem_append.1 hs with hs | hs
        · exact h2 s hs
        · rw [List.mem_singleton.1 hs]; simp
theorem sum_le_mul : ∀ (l : List Int) (n : Nat), (∀ y ∈ l, y ≤ 1000) → (∀ y ∈ l, 0 ≤ y) → (l.take n).sum ≤ 1000 * n
  | [], n, _, _ => by simp; omega
  | x :: xs, 0, _, _ => by simp
  | x :: xs, n + 1, h, h0 => by
    have := sum_le_mul xs n (fun y hy => h y (by simp [hy])) (fun y hy => h0 y (by simp [hy]))
    have := h x (by simp)
    simp only [List.take_succ_cons, List.sum_cons]
    omega
theorem good_pts {n m : Int} {xs : List Score} (g : goodS n m xs = true) : ∀ s ∈ xs, 0 ≤ s.points ∧ s.points ≤ 1000 := by
  intro s hs
  obtain ⟨k, hk, rfl⟩ := List.getElem_of_mem hs
  have := ((goodS_iff.1 g).2.2.1 k hk).1.2.2
  rw [inB_iff] at this
  exact this
theorem most_bd {n m : Int} {xs : List Score} {r h : Int} (hb : mostB n m xs r h = true) : askS n m xs r = true ∧ totV n m xs r ≤ mostV n m xs r h ∧ mostV n m xs r h ≤ m * 1000 := by
  have ha : askS n m xs r = true := by simp only [mostB, Bool.and_eq_true] at hb; exact hb.1
  have g := (ask_iff.1 ha).1
  have hm := (goodS_iff.1 g).2.1
  rw [inB_iff] at hm
  rw [totV_of ha]
  unfold mostV
  rw [if_pos hb]
  obtain ⟨h1, h2⟩ := tot_ext_le m xs r h (good_pts g) (n - h).toNat
  refine ⟨ha, h1, ?_⟩
  unfold totS sumTop
  have := sum_le_mul (ptsOf (xs ++ extN xs r h (n - h).toNat) r) m.toNat (fun y hy => (ptsOf_small h2 r y hy).2) (fun y hy => (ptsOf_small h2 r y hy).1)
  omega
/-! ### Who leads -/
theorem lead_first {n m : Int} {xs : List Score} {r : Int} (g : goodS n m xs = true) (hr : r ∈ stdL m xs) (hl : ∀ a ∈ stdL m xs, a = r ∨ cmpStand xs m r a < 0) : ∃ h : 0 < (stdL m xs).length, (stdL m xs)[0] = r := by
  obtain ⟨j, hj, hjr⟩ := List.getElem_of_mem hr
  refine ⟨by omega, ?_⟩
  rcases hl _ (List.getElem_mem (show 0 < (stdL m xs).length by omega)) with h | h
  · exact h
  · by_cases e : j = 0
    · subst e; exact hjr
    · have := List.pairwise_iff_getElem.1 (stdL_sorted m xs) 0 j (by omega) hj (by omega)
      rw [hjr] at this
      have := (cmpStand_cmp xs m).neg r ((stdL m xs)[0]'(by omega))
      omega
theorem lead_second {n m : Int} {xs : List Score} {r : Int} (g : goodS n m xs = true) (hr : r ∈ stdL m xs) (hl : ∀ a ∈ stdL m xs, a = r ∨ cmpStand xs m r a < 0) (h1 : 1 < (stdL m xs).length) : rankV n m xs (stdL m xs)[1] = 2 := by
  obtain ⟨h0, hf⟩ := lead_first g hr hl
  rw [rankV_of (ask_of_mem g (List.getElem_mem h1))]
  have hle := befN_le (stdL_sorted m xs) (cmpStand_cmp xs m) h1
  have hne : (stdL m xs)[1] ≠ r := by
    intro e
    have := List.pairwise_iff_getElem.1 (List.nodup_iff_pairwise_ne.1 (stdL_nodup (m := m) g)) 0 1 h0 h1 (by omega)
    exact this (hf.trans e.symm)
  have hlt : cmpStand xs m r (stdL m xs)[1] < 0 := (hl _ (List.getElem_mem h1)).resolve_left hne
  have hpos : 0 < befN (cmpStand xs m) (stdL m xs) (stdL m xs)[1] := by
    unfold befN
    exact List.length_pos_of_mem (List.mem_filter.2 ⟨hr, by simpa using hlt⟩)
  omega
theorem less_first {n m : Int} {xs : List Score} {r a : Int} (g : goodS n m xs = true) (h0 : 0 < (stdL m xs).length) (hf : (stdL m xs)[0] = r) (ha : a ∈ stdL m xs) (hne : a ≠ r) (hc : ¬ cmpStand xs m r a < 0) : ∃ h1 : 1 < (stdL m xs).length, rankV n m xs (stdL m xs)[1] = 1 := by
  obtain ⟨j, hj, hja⟩ := List.getElem_of_mem ha
  have hj0 : j ≠ 0 := by rintro rfl; exact hne (hja.symm.trans hf)
  have h1 : 1 < (stdL m xs).length := by omega
  refine ⟨h1, ?_⟩
  rw [rankV_of (ask_of_mem g (List.getElem_mem h1))]
  have C := cmpStand_cmp xs m
  have h1a : cmpStand xs m (stdL m xs)[1] a ≤ 0 := by
    by_cases e : j = 1
    · subst e; rw [hja]; have := C.neg a a; omega
    · have := List.pairwise_iff_getElem.1 (stdL_sorted m xs) 1 j h1 hj (by omega)
      rw [hja] at this; exact this
  have har : cmpStand xs m a r ≤ 0 := by have := C.neg r a; omega
  have h1r := C.tr _ _ _ h1a har
  have h0r : befN (cmpStand xs m) (stdL m xs) r ≤ 0 := by
    have := befN_le (stdL_sorted m xs) C h0
    rw [hf] at this
    exact this
  have := befN_mono (l := stdL m xs) C h1r
  omega
/-- What the points that are needed do. -/
theorem need_more {n m : Int} {xs : List Score} {r race : Int} (hb : needB n m xs r race = true) :
    goodS n m (addS xs ⟨r, race, needV n m xs r race⟩) = true ∧ goodS n m xs = true ∧ r ∈ stdL m (addS xs ⟨r, race, needV n m xs r race⟩) ∧
    (∀ a ∈ stdL m (addS xs ⟨r, race, needV n m xs r race⟩), a = r ∨ cmpStand (addS xs ⟨r, race, needV n m xs r race⟩) m r a < 0) ∧ 0 ≤ needV n m xs r race ∧ needV n m xs r race ≤ 1000 := by
  have hb' := hb
  simp only [needB, needG, Bool.and_eq_true, decide_eq_true_eq] at hb'
  obtain ⟨⟨ha, hg0⟩, hn⟩ := hb'
  have g := (ask_iff.1 ha).1
  have hV : needV n m xs r race = (needN m xs r race : Int) := by unfold needV; rw [if_pos hb]
  rw [hV]
  have gp := good_points (q := (needN m xs r race : Int)) ⟨Int.le_refl 0, by omega⟩ ⟨by omega, by omega⟩ hg0
  have hrun := runsS_add (p := (needN m xs r race : Int)) (mem_of_ask ha) g gp
  have hl := (firstT_spec (leadsB m xs r race) 1001).2.2 (by have : firstT (leadsB m xs r race) 1001 = needN m xs r race := rfl; omega)
  have hl' : leadsB m xs r race (needN m xs r race) = true := hl
  refine ⟨gp, g, ?_, fun a ha' => ?_, by omega, by omega⟩
  · rw [(stdL_perm _ _).mem_iff, hrun, mem_runsS]
    exact mem_of_ask ha
  · rw [(stdL_perm _ _).mem_iff, hrun] at ha'
    unfold leadsB at hl'
    have := List.all_eq_true.1 hl' a ha'
    simpa using this
theorem need_less {n m : Int} {xs : List Score} {r race : Int} (hb : needB n m xs r race = true) (hp : 1 ≤ needV n m xs r race) :
    goodS n m (addS xs ⟨r, race, needV n m xs r race - 1⟩) = true ∧
    (∃ a ∈ stdL m (addS xs ⟨r, race, needV n m xs r race - 1⟩), a ≠ r ∧ ¬ cmpStand (addS xs ⟨r, race, needV n m xs r race - 1⟩) m r a < 0) := by
  have hb' := hb
  simp only [needB, needG, Bool.and_eq_true, decide_eq_true_eq] at hb'
  obtain ⟨⟨ha, hg0⟩, hn⟩ := hb'
  have g := (ask_iff.1 ha).1
  have hV : needV n m xs r race = (needN m xs r race : Int) := by unfold needV; rw [if_pos hb]
  rw [hV] at hp ⊢
  obtain ⟨q, hq⟩ : ∃ q : Nat, needN m xs r race = q + 1 := ⟨needN m xs r race - 1, by omega⟩
  have e : ((needN m xs r race : Int) - 1) = (q : Int) := by omega
  rw [e]
  have gp := good_points (q := (q : Int)) ⟨Int.le_refl 0, by omega⟩ ⟨by omega, by omega⟩ hg0
  have hrun := runsS_add (p := (q : Int)) (mem_of_ask ha) g gp
  have hf := (firstT_spec (leadsB m xs r race) 1001).2.1 q (by have : firstT (leadsB m xs r race) 1001 = needN m xs r race := rfl; omega)
  refine ⟨gp, ?_⟩
  unfold leadsB at hf
  rw [List.all_eq_false] at hf
  obtain ⟨a, ha', hna⟩ := hf
  refine ⟨a, by rw [(stdL_perm _ _).mem_iff, hrun]; exact ha', ?_⟩
  simp only [Bool.or_eq_true, beq_iff_eq, decide_eq_true_eq, not_or] at hna
  exact hna
theorem bad_neg {n m : Int} {xs : List Score} {r race p : Int} (hp : p < 0) : goodS n m (addS xs ⟨r, race, p⟩) = false := by
  refine goodS_false fun g => ?_
  have := good_pts (goodS_true g) ⟨r, race, p⟩ ((addS_perm xs _).mem_iff.2 (by simp))
  simp only at this
  omega
end Go.Proofs.Ythhlfkeikcmnlaa
