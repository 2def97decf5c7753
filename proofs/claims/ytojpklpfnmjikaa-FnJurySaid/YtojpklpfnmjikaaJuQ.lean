/- Plain facts on results: what the law FnJury asks of one taken out, of a voided code and of best legs. No condition. -/
import Derived.Test.YtojpklpfnmjikaaRfQ
import Derived.Test.YtojpklpfnmjikaaBlQ
import Derived.Test.YtojpklpfnmjikaaReF
import Derived.Test.YtojpklpfnmjikaaReE
namespace Go.Proofs.Ytojpklpfnmjikaa
open Go Go.RowKit

/-- Who is taken out has the status 'out', no rank, and cannot be taken out again. -/
theorem take_ask {ks : List RunK} {r : Int} (h : takeB ks r = true) : stoV (takeL ks r) [] 36000 r = (4, true) ∧ rkV (takeL ks r) [] 36000 r = (0, true) ∧ takeB (takeL ks r) r = false := by
  have hb := h
  simp only [takeB, Bool.and_eq_true] at hb
  obtain ⟨hg, hm⟩ := hb
  cases hf : ks.find? (fun k => k.runner == r) with
  | none => rw [hf] at hm; cases hm
  | some k =>
    rw [hf] at hm
    simp only [Bool.and_eq_true, Bool.not_eq_true'] at hm
    obtain ⟨hp, i, hi, hk, hj⟩ := List.find?_eq_some_iff_getElem.1 hf
    have hr : k.runner = r := by simpa using hp
    have hix : ks.findIdx? (fun k => k.runner == r) = some i := by
      rw [List.findIdx?_eq_some_iff_getElem]
      exact ⟨hi, by rw [hk]; exact hp, fun j hjl => by simpa using hj j hjl⟩
    have ht : takeL ks r = ks.modify i outK := by
      unfold takeL
      rw [if_pos h, hix]
    rw [ht]
    have hl : (ks.modify i outK).length = ks.length := by simp
    have hge : ∀ j (h1 : j < (ks.modify i outK).length) (h2 : j < ks.length), (ks.modify i outK)[j].runner = ks[j].runner := by
      intro j h1 h2
      rw [List.getElem_modify]
      split <;> rfl
    have hgo : goodRs (ks.modify i outK) = true := by
      refine goodRs_true ⟨fun j hj2 => ?_, by rw [hl]; exact (goodRs_iff.1 hg).2⟩
      have hj3 : j < ks.length := by rw [hl] at hj2; exact hj2
      have hs := (goodRs_iff.1 hg).1 j hj3
      refine ⟨?_, fun h0 => ?_⟩
      · rw [List.getElem_modify]
        split
        · rename_i e
          have e2 : ks[j] = k := by rw [← hk]; congr 1; exact e.symm
          have h1 := hs.1
          rw [e2] at h1 ⊢
          simp only [runOk, outK, hm.1, if_true] at h1 ⊢
          exact h1
        · exact hs.1
      · rw [hge j hj2 hj3, hge (j - 1) (by omega) (by omega)]
        exact hs.2 h0
    have hio : i < (ks.modify i outK).length := by rw [hl]; exact hi
    have hei : (ks.modify i outK)[i] = outK k := by rw [List.getElem_modify, if_pos rfl, hk]
    have hmem : outK k ∈ ks.modify i outK := by rw [← hei]; exact List.getElem_mem hio
    have hfo := find_keyf _ (runs_lt hgo) _ hmem
    have hrr : (outK k).runner = r := hr
    rw [hrr] at hfo
    have hask : askR (ks.modify i outK) [] 36000 = true := by
      simp only [askR, hgo, Bool.true_and]
      decide
    have hst : stV (outK k) [] 36000 = 4 := by simp [stV, outK, hm.1]
    refine ⟨?_, ?_, ?_⟩
    · rw [stoV_some hask hfo, hst]
    · rw [rkV_some hask hfo, hst]; rfl
    · rw [takeB_some hgo hfo]
      simp [outK]
/-- Whom a voided code helps had missed one. -/
theorem void_ask {ks : List RunK} {cs : List Int} {limit code x : Int} (h : x ∈ voidV ks cs limit code) : (1 ≤ x ∧ x ≤ 99) ∧ stoV ks cs limit x = (1, true) := by
  unfold voidV at h
  by_cases ha : askV ks cs limit code = true
  rotate_left
  · rw [if_neg ha] at h; cases h
  rw [if_pos ha] at h
  have hask : askR ks cs limit = true := by simp only [askV, Bool.and_eq_true] at ha; exact ha.1
  unfold vdL at h
  obtain ⟨k, hk, rfl⟩ := List.mem_map.1 h
  obtain ⟨hk1, hk2⟩ := List.mem_filter.1 hk
  simp only [Bool.and_eq_true, bne_iff_ne, ne_eq, beq_iff_eq] at hk2
  refine ⟨runner_small (ask_good hask) hk1, ?_⟩
  rw [(sto_of hask hk1).1]
  obtain ⟨n0, l0⟩ := hk2
  have : stV k cs limit = 1 := by
    unfold stV at n0 l0 ⊢
    split at l0
    · omega
    split at l0
    · omega
    split at l0
    · omega
    split at l0
    · omega
    split at l0
    · omega
    rename_i h1 h2 h3 h4 h5
    rw [if_neg h1, if_neg h2, if_neg h3] at n0 ⊢
    by_cases hm : 0 < (missL k.card.punches cs).length
    · rw [if_pos hm]
    · rw [if_neg hm, if_neg h5] at n0
      exact absurd rfl n0
  rw [this]
theorem bestI_le {cs : List Int} {i : Nat} : ∀ (l : List RunK) (a : Int), l.foldl (fun a k => min a (legI k cs i)) a ≤ a ∧ ∀ k ∈ l, l.foldl (fun a k => min a (legI k cs i)) a ≤ legI k cs i
  | [], a => ⟨Int.le_refl _, fun k hk => by cases hk⟩
  | q :: l, a => by
    simp only [List.foldl_cons]
    obtain ⟨h1, h2⟩ := bestI_le (cs := cs) (i := i) l (min a (legI q cs i))
    refine ⟨by omega, fun k hk => ?_⟩
    rcases List.mem_cons.1 hk with rfl | hk
    · omega
    · exact h2 k hk
/-- The legs of one run, up to a code, make its time there. -/
theorem legs_sum (k : RunK) (cs : List Int) : ∀ n : Nat, 0 < n → ((List.range n).map fun i => legI k cs i).sum = timeI k cs (n - 1) - k.card.start
  | 0, h => by omega
  | 1, _ => by simp [legI, fromI, List.range_succ]
  | n + 2, _ => by
    rw [List.range_succ, List.map_append, List.sum_append, legs_sum k cs (n + 1) (by omega)]
    simp only [List.map_cons, List.map_nil, List.sum_cons, List.sum_nil, legI, fromI, Nat.add_sub_cancel]
    rw [if_neg (by omega)]
    have e : n + 2 - 1 = n + 1 := by omega
    rw [e]
    omega
theorem sum_le {f g : Nat → Int} : ∀ n : Nat, (∀ i, i < n → f i ≤ g i) → ((List.range n).map f).sum ≤ ((List.range n).map g).sum
  | 0, _ => by simp
  | n + 1, h => by
    rw [List.range_succ, List.map_append, List.map_append, List.sum_append, List.sum_append]
    have := sum_le n (fun i hi => h i (by omega))
    have := h n (by omega)
    simp only [List.map_cons, List.map_nil, List.sum_cons, List.sum_nil]
    omega
/-- The split times of a run that found all codes. -/
def spL (k : RunK) (cs : List Int) : List Int := (List.range cs.length).map fun i => timeI k cs i - k.card.start
theorem legs_ask {ks : List RunK} {cs : List Int} {limit : Int} (h : blB ks cs limit = true) {k : RunK} (hk : k ∈ ks) (h0 : stV k cs limit = 0) : (blV ks cs limit).length = cs.length ∧ (0 < cs.length → (blV ks cs limit).sum ≤ timeI k cs (cs.length - 1) - k.card.start) ∧ ∀ x ∈ blV ks cs limit, -100000 ≤ x ∧ x ≤ 100000 := by
  have hv : blV ks cs limit = bestsL cs (okL cs limit ks) := by unfold blV; rw [if_pos h]
  have hask : askR ks cs limit = true := by simp only [blB, Bool.and_eq_true] at h; exact h.1
  have hm : k ∈ okL cs limit ks := List.mem_filter.2 ⟨hk, by simp [okR, h0]⟩
  rw [hv]
  refine ⟨by simp [bestsL], fun hn => ?_, fun x hx => ?_⟩
  · rw [← legs_sum k cs cs.length hn]
    unfold bestsL
    exact sum_le _ (fun i _ => (bestI_le (okL cs limit ks) 36000).2 k hm)
  · unfold bestsL at hx
    obtain ⟨i, hi, rfl⟩ := List.mem_map.1 hx
    have hi' : i < cs.length := by simpa using hi
    have hge : ∀ (l : List RunK) (a : Int), -36000 ≤ a → (∀ q ∈ l, -36000 ≤ legI q cs i) → -36000 ≤ l.foldl (fun a k => min a (legI k cs i)) a := by
      intro l
      induction l with
      | nil => intro a ha _; exact ha
      | cons q l ih =>
        intro a ha hq
        simp only [List.foldl_cons]
        have := hq q (by simp)
        exact ih _ (by omega) (fun z hz => hq z (List.mem_cons_of_mem _ hz))
    have hle := (bestI_le (cs := cs) (i := i) (okL cs limit ks) 36000).1
    have hg2 := hge (okL cs limit ks) 36000 (by omega) (fun q hq => by
      obtain ⟨q1, q2⟩ := List.mem_filter.1 hq
      have q0 : stV q cs limit = 0 := by simpa [okR] using q2
      obtain ⟨j, hj, rfl⟩ := List.getElem_of_mem q1
      have qo := ((goodRs_iff.1 (ask_good hask)).1 j hj).1
      have t1 := timeI_small q0 qo hi'
      have t2 := fromI_small q0 qo hi'
      unfold legI
      omega)
    unfold bestI
    omega
end Go.Proofs.Ytojpklpfnmjikaa
