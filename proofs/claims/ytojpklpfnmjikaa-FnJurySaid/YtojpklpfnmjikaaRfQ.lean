/- Plain facts on results: what the laws ask of an order, of ranks, of counts and of times behind. No condition. -/
import Derived.Test.YtojpklpfnmjikaaRoQ
namespace Go.Proofs.Ytojpklpfnmjikaa
open Go Go.RowKit

theorem bump_sum_ : ∀ {l : List Int} {s : Nat}, s < l.length → (bump l s).sum = l.sum + 1
  | a :: l, 0, _ => by simp only [bump, List.set_cons_zero, List.getD_cons_zero, List.sum_cons]; omega
  | a :: l, s + 1, h => by
    have := bump_sum_ (l := l) (s := s) (by simpa using h)
    simp only [bump] at this
    simp only [bump, List.set_cons_succ, List.getD_cons_succ, List.sum_cons]
    omega
theorem cntL_sum (cs : List Int) (limit : Int) (ks : List RunK) : (cntL cs limit ks).sum = (ks.length : Int) := by
  have key : ∀ j, j ≤ ks.length → (cntL cs limit (ks.take j)).sum = (j : Int) := by
    intro j
    induction j with
    | zero => intro _; simp [cntL]
    | succ j ih =>
      intro hj
      have := stV_range ks[j] cs limit
      rw [cntL_step cs limit ks j (by omega), bump_sum_ (by rw [(cntL_inv cs limit ks j (by omega)).1]; omega), ih (by omega)]
      omega
  have := key ks.length (Nat.le_refl _)
  rwa [List.take_length] at this
theorem ask_good {ks : List RunK} {cs : List Int} {limit : Int} (h : askR ks cs limit = true) : goodRs ks = true := by
  simp only [askR, Bool.and_eq_true] at h
  exact h.1.1
theorem cnt_ask {ks : List RunK} {cs : List Int} {limit : Int} (h : askR ks cs limit = true) : (cntV ks cs limit).sum = (ks.length : Int) ∧ (∀ x ∈ cntV ks cs limit, 0 ≤ x ∧ x ≤ 1000) ∧ (cntV ks cs limit).length = 6 := by
  have hl := (goodRs_iff.1 (ask_good h)).2
  have hi := cntL_inv cs limit ks ks.length (Nat.le_refl _)
  rw [List.take_length] at hi
  unfold cntV
  rw [if_pos h]
  refine ⟨cntL_sum _ _ _, fun x hx => ?_, hi.1⟩
  obtain ⟨i, hi', rfl⟩ := List.getElem_of_mem hx
  have h2 := hi.2 i
  rw [List.getD_eq_getElem?_getD, List.getElem?_eq_getElem hi'] at h2
  simp only [Option.getD_some] at h2
  omega
theorem find_keyf : ∀ (ks : List RunK), (ks.Pairwise fun a b => a.runner < b.runner) → ∀ k ∈ ks, ks.find? (fun q => q.runner == k.runner) = some k
  | [], _, k, hk => by cases hk
  | a :: l, hp, k, hk => by
    rw [List.pairwise_cons] at hp
    rcases List.mem_cons.1 hk with rfl | hk
    · simp
    · have hlt := hp.1 k hk
      have hne : (a.runner == k.runner) = false := by simp; omega
      rw [List.find?_cons, hne]
      exact find_keyf l hp.2 k hk
theorem cmpI_negf {x y : Int} : cmpI x y < 0 ↔ x < y := by
  unfold cmpI
  split
  · simp [*]
  · split <;> simp [*]
theorem cmpR_notf {cs : List Int} {limit : Int} {a b : RunK} (h : ltX cs limit b a = false) : stV a cs limit ≤ stV b cs limit ∧ (stV a cs limit = 0 → stV b cs limit = 0 → rtime a ≤ rtime b) := by
  unfold ltX ltC cmpR at h
  simp only [decide_eq_false_iff_not] at h
  by_cases e : stV b cs limit = 0 ∧ stV a cs limit = 0
  · rw [if_pos e, cmpI_negf] at h
    exact ⟨by omega, fun _ _ => by omega⟩
  · rw [if_neg e, cmpI_negf] at h
    exact ⟨by omega, fun h1 h2 => absurd ⟨h2, h1⟩ e⟩
theorem ordXf (cs : List Int) (limit : Int) : Ord (ltX cs limit) := by
  refine ⟨fun x y h => ?_, fun x y z h1 h2 => ?_⟩
  · unfold ltX ltC cmpR at *
    simp only [decide_eq_true_eq, decide_eq_false_iff_not] at *
    by_cases e : stV x cs limit = 0 ∧ stV y cs limit = 0
    · rw [if_pos e, cmpI_negf] at h
      rw [if_pos ⟨e.2, e.1⟩, cmpI_negf]
      omega
    · rw [if_neg e, cmpI_negf] at h
      rw [if_neg (fun h => e ⟨h.2, h.1⟩), cmpI_negf]
      omega
  · have a1 := cmpR_notf h1
    have a2 := cmpR_notf h2
    unfold ltX ltC cmpR
    simp only [decide_eq_false_iff_not]
    by_cases e : stV z cs limit = 0 ∧ stV x cs limit = 0
    · rw [if_pos e, cmpI_negf]
      have hs := stV_range y cs limit
      have hy : stV y cs limit = 0 := by omega
      have b1 := a1.2 e.2 hy
      have b2 := a2.2 hy e.1
      omega
    · rw [if_neg e, cmpI_negf]
      omega
theorem order_rank {ks : List RunK} {cs : List Int} {limit : Int} {i : Nat} (hi : i < (ordS cs limit ks).length) (h0 : stV (ordS cs limit ks)[i] cs limit = 0) : rkN cs limit (rtime (ordS cs limit ks)[i]) ks ≤ (i : Int) + 1 := by
  have hp : (ordS cs limit ks).Perm ks := putAll_perm _ _
  have ho : (ordS cs limit ks).Pairwise fun a b => ltX cs limit b a = false := putAll_ordered (ordXf cs limit) _
  generalize ordS cs limit ks = O at *
  obtain ⟨P, hP⟩ : ∃ P : RunK → Bool, P = fun q => okR cs limit q && decide (rtime q < rtime O[i]) := ⟨_, rfl⟩
  have hl : (ks.filter P).length = (O.filter P).length := ((hp.filter P).length_eq).symm
  unfold rkN
  rw [← hP, hl]
  have hsp : O.filter P = (O.take i).filter P ++ (O.drop i).filter P := by rw [← List.filter_append, List.take_append_drop]
  have hd : (O.drop i).filter P = [] := by
    rw [List.filter_eq_nil_iff]
    intro q hq hPq
    obtain ⟨j, hj, rfl⟩ := List.getElem_of_mem hq
    rw [List.getElem_drop] at hPq
    rw [hP] at hPq
    simp only [okR, Bool.and_eq_true, beq_iff_eq, decide_eq_true_eq] at hPq
    rw [List.length_drop] at hj
    rcases Nat.eq_zero_or_pos j with rfl | hj0
    · have : O[i + 0] = O[i] := by congr 1
      rw [this] at hPq
      omega
    · have := cmpR_notf (List.pairwise_iff_getElem.1 ho i (i + j) hi (by omega) (by omega))
      have := this.2 h0 hPq.1
      omega
  rw [hsp, hd, List.append_nil]
  have := List.length_filter_le P (O.take i)
  rw [List.length_take] at this
  omega
theorem sto_of {ks : List RunK} {cs : List Int} {limit : Int} (h : askR ks cs limit = true) {k : RunK} (hk : k ∈ ks) : stoV ks cs limit k.runner = (stV k cs limit, true) ∧ rkV ks cs limit k.runner = (if stV k cs limit = 0 then rkN cs limit (rtime k) ks else 0, true) :=
  have hf := find_keyf ks (runs_lt (ask_good h)) k hk
  ⟨stoV_some h hf, rkV_some h hf⟩
theorem runner_small {ks : List RunK} (h : goodRs ks = true) {k : RunK} (hk : k ∈ ks) : 1 ≤ k.runner ∧ k.runner ≤ 99 := by
  obtain ⟨i, hi, rfl⟩ := List.getElem_of_mem hk
  have := ((goodRs_iff.1 h).1 i hi).1
  simp only [runOk, Bool.and_eq_true] at this
  exact inB_iff.1 this.1
/-- What the law asks of an order. -/
theorem order_ask {ks : List RunK} {cs : List Int} {limit : Int} (h : askR ks cs limit = true) : (roV ks cs limit).length = ks.length ∧ ∀ i (hi : i < (roV ks cs limit).length),
    (1 ≤ (roV ks cs limit)[i] ∧ (roV ks cs limit)[i] ≤ 99) ∧ (stoV ks cs limit (roV ks cs limit)[i]).2 = true ∧ (rkV ks cs limit (roV ks cs limit)[i]).2 = true ∧ (0 ≤ (stoV ks cs limit (roV ks cs limit)[i]).1) ∧
    (0 < (rkV ks cs limit (roV ks cs limit)[i]).1 ↔ (stoV ks cs limit (roV ks cs limit)[i]).1 = 0) ∧ (rkV ks cs limit (roV ks cs limit)[i]).1 ≤ (i : Int) + 1 ∧
    ∀ h0 : 0 < i, (stoV ks cs limit ((roV ks cs limit)[i - 1]'(by omega))).1 ≤ (stoV ks cs limit (roV ks cs limit)[i]).1 := by
  have hl := ordS_len cs limit ks
  have hp : (ordS cs limit ks).Perm ks := putAll_perm _ _
  have ho : (ordS cs limit ks).Pairwise fun a b => ltX cs limit b a = false := putAll_ordered (ordXf cs limit) _
  have hr : roV ks cs limit = (ordS cs limit ks).map RunK.runner := by unfold roV; rw [if_pos h]
  refine ⟨by rw [hr, List.length_map, hl], fun i hi => ?_⟩
  have hi2 : i < (ordS cs limit ks).length := by rw [hr, List.length_map] at hi; exact hi
  have hg : ∀ j (hj : j < (roV ks cs limit).length) (hj2 : j < (ordS cs limit ks).length), (roV ks cs limit)[j] = ((ordS cs limit ks)[j]).runner := by
    intro j hj hj2
    simp only [hr, List.getElem_map]
  rw [hg i hi hi2]
  obtain ⟨e1, e2⟩ := sto_of h (hp.mem_iff.1 (List.getElem_mem hi2))
  rw [e1, e2]
  have hs := stV_range (ordS cs limit ks)[i] cs limit
  refine ⟨runner_small (ask_good h) (hp.mem_iff.1 (List.getElem_mem hi2)), rfl, rfl, hs.1, ?_, ?_, fun h0 => ?_⟩
  · simp only
    by_cases e : stV (ordS cs limit ks)[i] cs limit = 0
    · rw [if_pos e]
      have := rkN_small cs limit (rtime (ordS cs limit ks)[i]) ks
      exact ⟨fun _ => e, fun _ => by omega⟩
    · rw [if_neg e]
      exact ⟨fun h => by omega, fun h => absurd h e⟩
  · simp only
    by_cases e : stV (ordS cs limit ks)[i] cs limit = 0
    · rw [if_pos e]; exact order_rank hi2 e
    · rw [if_neg e]; omega
  · have hi3 : i - 1 < (ordS cs limit ks).length := by omega
    rw [hg (i - 1) (by omega) hi3]
    obtain ⟨e3, _⟩ := sto_of h (hp.mem_iff.1 (List.getElem_mem hi3))
    rw [e3]
    exact (cmpR_notf (List.pairwise_iff_getElem.1 ho (i - 1) i hi3 hi2 (by omega))).1
theorem leastN_le {cs : List Int} {limit : Int} : ∀ (l : List RunK) (a : Int), l.foldl (fun a k => if okR cs limit k then min a (rtime k) else a) a ≤ a ∧ ∀ q ∈ l, okR cs limit q = true → l.foldl (fun a k => if okR cs limit k then min a (rtime k) else a) a ≤ rtime q
  | [], a => ⟨Int.le_refl _, fun q hq => by cases hq⟩
  | k :: l, a => by
    simp only [List.foldl_cons]
    obtain ⟨h1, h2⟩ := leastN_le (cs := cs) (limit := limit) l (if okR cs limit k then min a (rtime k) else a)
    have hle : (if okR cs limit k then min a (rtime k) else a) ≤ a := by split <;> omega
    refine ⟨by omega, fun q hq hok => ?_⟩
    rcases List.mem_cons.1 hq with rfl | hq
    · rw [if_pos hok] at h1 ⊢
      omega
    · exact h2 q hq hok
theorem leastN_ge {cs : List Int} {limit t : Int} : ∀ (l : List RunK) (a : Int), t ≤ a → (∀ q ∈ l, okR cs limit q = true → t ≤ rtime q) → t ≤ l.foldl (fun a k => if okR cs limit k then min a (rtime k) else a) a
  | [], a, h, _ => h
  | k :: l, a, h, hq => by
    simp only [List.foldl_cons]
    refine leastN_ge l _ ?_ (fun q hm => hq q (List.mem_cons_of_mem _ hm))
    split
    · have := hq k (by simp) (by assumption)
      omega
    · exact h
/-- What the law asks of the times behind. -/
theorem behind_ask {ks : List RunK} {cs : List Int} {limit : Int} (h : askR ks cs limit = true) : (tbV ks cs limit).length = ks.length ∧ ∀ i (hi : i < ks.length) (hi' : i < (tbV ks cs limit).length),
    (rkV ks cs limit ks[i].runner).2 = true ∧ ((rkV ks cs limit ks[i].runner).1 = 1 ↔ (tbV ks cs limit)[i] = 0) := by
  have ht : tbV ks cs limit = tbL cs limit (leastN cs limit ks) ks := by unfold tbV; rw [if_pos h]
  refine ⟨by rw [ht, tbL_len], fun i hi hi' => ?_⟩
  have e : (tbV ks cs limit)[i] = if stV ks[i] cs limit = 0 then rtime ks[i] - leastN cs limit ks else -1 := by simp only [ht, tbL, List.getElem_map]
  have hm := List.getElem_mem hi
  have hok := ((goodRs_iff.1 (ask_good h)).1 i hi).1
  rw [e, (sto_of h hm).2]
  generalize ks[i] = k at hm hok ⊢
  refine ⟨rfl, ?_⟩
  simp only
  by_cases e0 : stV k cs limit = 0
  · rw [if_pos e0, if_pos e0]
    have hle := (leastN_le (cs := cs) (limit := limit) ks 36000).2
    have hsm := rtime_small hok
    have hkok : okR cs limit k = true := by simp [okR, e0]
    have h1 : leastN cs limit ks ≤ rtime k := hle k hm hkok
    constructor
    · intro hr
      unfold rkN at hr
      have hn : (ks.filter fun q => okR cs limit q && decide (rtime q < rtime k)) = [] := List.length_eq_zero_iff.1 (by omega)
      rw [List.filter_eq_nil_iff] at hn
      have h2 : rtime k ≤ leastN cs limit ks := leastN_ge ks 36000 hsm.2 (fun q hq hqo => by
        have := hn q hq
        simp only [hqo, Bool.true_and, decide_eq_true_eq] at this
        omega)
      omega
    · intro hz
      unfold rkN
      have hn : (ks.filter fun q => okR cs limit q && decide (rtime q < rtime k)) = [] := by
        rw [List.filter_eq_nil_iff]
        intro q hq hb
        simp only [Bool.and_eq_true, decide_eq_true_eq] at hb
        have h3 : leastN cs limit ks ≤ rtime q := hle q hq hb.1
        omega
      rw [hn]
      rfl
  · rw [if_neg e0, if_neg e0]
    exact ⟨fun h => by omega, fun h => by omega⟩
end Go.Proofs.Ytojpklpfnmjikaa
