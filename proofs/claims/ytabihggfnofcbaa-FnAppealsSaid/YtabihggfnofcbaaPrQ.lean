/- Plain: what the changes of protests agree on. No condition. -/
import Derived.Test.YtabihggfnofcbaaWithOps
import Derived.Test.YtabihggfnofcbaaUph
import Derived.Test.YtabihggfnofcbaaAbout
namespace Go.Proofs.Ytabihggfnofcbaa
open Go Go.RowKit

theorem good_mem {x : List Prot} (h : good x = true) {p : Prot} (hp : p ∈ x) : specOne p = true := by
  obtain ⟨k, hk, rfl⟩ := List.getElem_of_mem hp
  exact good_at h hk
theorem good_ok {x : List Prot} (h : good x = true) : ∀ p ∈ x, Prot.ok p := by
  intro p hp
  have := specOne_bounds (good_mem h hp)
  simp only [Prot.ok, I64]
  omega
theorem id_lt {x : List Prot} (h : good x = true) : ∀ (j i : Nat) (hi : i < x.length) (hj : j < x.length), i < j → x[i].id < x[j].id := by
  intro j
  induction j with
  | zero => intro i _ _ h0; omega
  | succ j ih =>
    intro i hi hj hij
    have h1 := (((good_iff.1 h).1 (j + 1) hj).2 (by omega)).1
    simp only [Nat.add_sub_cancel] at h1
    by_cases e : i = j
    · subst e; exact h1
    · have := ih i hi (by omega) (by omega); omega
theorem id_inj {x : List Prot} (h : good x = true) {i j : Nat} (hi : i < x.length) (hj : j < x.length) (e : x[i].id = x[j].id) : i = j := by
  rcases Nat.lt_trichotomy i j with h1 | h1 | h1
  · have := id_lt h j i hi hj h1; omega
  · exact h1
  · have := id_lt h i j hj hi h1; omega
theorem good_last {x : List Prot} {p q : Prot} (h : good (x ++ [p]) = true) (hid : q.id = p.id) (hm : q.made = p.made) (hq : specOne q = true) : good (x ++ [q]) = true := by
  obtain ⟨h1, h2⟩ := good_iff.1 h
  refine good_iff.2 ⟨fun k hk => ?_, by simpa using h2⟩
  have hk1 : k < (x ++ [p]).length := by simpa using hk
  have h3 := h1 k hk1
  by_cases e : k < x.length
  · refine ⟨?_, fun h0 => ?_⟩
    · have := h3.1
      rw [List.getElem_append_left e] at this ⊢
      exact this
    · have := h3.2 h0
      rw [List.getElem_append_left e, List.getElem_append_left (by omega)] at this ⊢
      exact this
  · obtain rfl : k = x.length := by simp at hk; omega
    refine ⟨by simpa using hq, fun h0 => ?_⟩
    have := h3.2 h0
    rw [List.getElem_append_left (by omega)] at this ⊢
    simp only [List.getElem_concat_length] at this ⊢
    rw [hid, hm]
    exact this
theorem find_last {x : List Prot} {p : Prot} (h : good (x ++ [p]) = true) : (x ++ [p]).findIdx? (hasId p.id) = some x.length := by
  refine find_found (by simp) (by simp [hasId]) fun j hj hjx => ?_
  have := id_lt h x.length j hj (by simp) hjx
  simp only [List.getElem_concat_length] at this
  simp only [hasId, beq_eq_false_iff_ne]
  omega
theorem set_last (x : List Prot) (p q : Prot) : (x ++ [p]).set x.length q = x ++ [q] := by
  rw [List.set_append_right _ _ (by omega)]; simp
theorem with_last {x : List Prot} {p : Prot} {id : Int} {c : Prot → Bool} {f : Prot → Prot} (h : good (x ++ [p]) = true) (he : id = p.id) (hc : c p = true) (hid : (f p).id = p.id) (hm : (f p).made = p.made) (hf : specOne (f p) = true) :
    wOut (x ++ [p]) id c f = x ++ [f p] ∧ wOk (x ++ [p]) id c f = true ∧ good (x ++ [f p]) = true := by
  subst he
  have hg := good_last h hid hm hf
  have := with_fit (x := x ++ [p]) (k := x.length) (c := c) (f := f) (by simp) (find_last h) h (by simpa using hc) (by simpa [set_last] using hg)
  simp only [List.getElem_concat_length, set_last] at this
  exact ⟨this.1, this.2, hg⟩
/-- What becomes of a protest that is made. -/
theorem make_facts {x : List Prot} {b a t : Int} (h : mkOk x b a t = true) : ∃ (o o1 o2 o3 : List Prot) (id : Int), mkOut x b a t = o ∧ mkId x b a t = id ∧ good o = true ∧ id ∈ pendM o ∧ okA o a = true ∧ id ∈ aboutM o a ∧ id ∉ byM o a ∧
    wOut o id cHear fHear = o1 ∧ wOk o id cHear fHear = true ∧ good o1 = true ∧ wOut o1 id cOpen (fVote true) = o2 ∧ wOk o1 id cOpen (fVote true) = true ∧ good o2 = true ∧ wOut o2 id cOpen fDecide = o3 ∧ wOk o2 id cOpen fDecide = true ∧ good o3 = true ∧ a ∈ upM o3 ∧ I64 id := by
  have h' := h
  simp only [mkOk, Bool.and_eq_true] at h'
  obtain ⟨hg, hgo⟩ := h'
  obtain ⟨-, e1, e2⟩ := mk_true hg hgo
  have hlast : specOne (newP x b a t) = true := good_mem hgo (by simp)
  have hb := specOne_bounds hlast
  simp only [newP] at hb
  have hne : a ≠ b := by
    intro e
    simp [specOne, newP, e] at hlast
  have s1 : specOne ⟨nextId x, a, b, t, 1, 0⟩ = true := by
    simp only [specOne, newP, inB] at hlast ⊢; grind
  have s2 : specOne ⟨nextId x, a, b, t, 1, 1⟩ = true := by
    simp only [specOne, newP, inB] at hlast ⊢; grind
  have s3 : specOne ⟨nextId x, a, b, t, 2, 1⟩ = true := by
    simp only [specOne, newP, inB] at hlast ⊢; grind
  obtain ⟨w1, w2, w3⟩ := with_last (id := nextId x) (c := cHear) (f := fHear) hgo rfl rfl rfl rfl s1
  obtain ⟨w4, w5, w6⟩ := with_last (id := nextId x) (c := cOpen) (f := fVote true) w3 rfl rfl rfl rfl s2
  obtain ⟨w7, w8, w9⟩ := with_last (id := nextId x) (c := cOpen) (f := fDecide) w6 rfl rfl rfl rfl s3
  have hok : okA (x ++ [newP x b a t]) a = true := by
    simp only [okA, hgo, Bool.true_and, inB_iff]; omega
  refine ⟨x ++ [newP x b a t], _, _, _, nextId x, e1, e2, hgo, ?_, hok, ?_, ?_, w1, w2, w3, w4, w5, w6, w7, w8, w9, ?_, ?_⟩
  · rw [pendM_true hgo]
    exact List.mem_map.2 ⟨newP x b a t, List.mem_filter.2 ⟨by simp, rfl⟩, rfl⟩
  · simp only [aboutM, hok, if_true]
    exact List.mem_map.2 ⟨newP x b a t, List.mem_filter.2 ⟨by simp, by simp [newP]⟩, rfl⟩
  · simp only [byM, hok, if_true]
    intro hx
    obtain ⟨q, hq, hqe⟩ := List.mem_map.1 hx
    obtain ⟨hq1, hq2⟩ := List.mem_filter.1 hq
    obtain ⟨j, hj, rfl⟩ := List.getElem_of_mem hq1
    have hl : x.length < (x ++ [newP x b a t]).length := by simp
    have := id_inj hgo hj hl (by simp only [List.getElem_concat_length]; exact hqe)
    subst this
    simp only [List.getElem_concat_length, newP, beq_iff_eq] at hq2
    exact hne hq2.symm
  · rw [upM_true w9, (putUs_ok _).2]
    exact List.mem_map.2 ⟨fDecide (fVote true (fHear (newP x b a t))), List.mem_filter.2 ⟨by simp, rfl⟩, rfl⟩
  · unfold I64; omega
theorem with_cases {x : List Prot} {id : Int} {c : Prot → Bool} {f : Prot → Prot} (h : wOk x id c f = true) : ∃ k, ∃ hk : k < x.length, x[k].id = id ∧ good x = true ∧ c x[k] = true ∧ good (x.set k (f x[k])) = true ∧ wOut x id c f = x.set k (f x[k]) := by
  unfold wOk withM at h
  cases hf : x.findIdx? (hasId id) with
  | none => rw [hf] at h; simp at h
  | some k =>
    have hk := List.findIdx?_eq_some_iff_getElem.1 hf
    rw [hf] at h
    simp only [List.getElem?_eq_getElem hk.1] at h
    split at h
    · rename_i hc
      simp only [Bool.and_eq_true] at hc
      refine ⟨k, hk.1, by simpa [hasId] using hk.2.1, hc.1.1, hc.1.2, hc.2, ?_⟩
      exact (with_fit hk.1 hf hc.1.1 hc.1.2 hc.2).1
    · simp at h
theorem decide_facts {x : List Prot} {id : Int} (h : wOk x id cOpen fDecide = true) : good (wOut x id cOpen fDecide) = true ∧ id ∉ pendM (wOut x id cOpen fDecide) := by
  obtain ⟨k, hk, hid, hg, hc, hgo, he⟩ := with_cases h
  rw [he]
  refine ⟨hgo, ?_⟩
  rw [pendM_true hgo]
  intro hx
  obtain ⟨q, hq, hqe⟩ := List.mem_map.1 hx
  obtain ⟨hq1, hq2⟩ := List.mem_filter.1 hq
  obtain ⟨j, hj, rfl⟩ := List.getElem_of_mem hq1
  have hks : k < (x.set k (fDecide x[k])).length := by simpa using hk
  have e1 : (x.set k (fDecide x[k]))[k].id = id := by rw [List.getElem_set_self]; exact hid
  have := id_inj hgo hj hks (by rw [e1]; exact hqe)
  subst this
  rw [List.getElem_set_self] at hq2
  simp only [isPend, fDecide] at hq2
  split at hq2 <;> simp at hq2
theorem appeal_facts {x : List Prot} {id t : Int} (h : wOk x id (cAppeal t) fAppeal = true) : good (wOut x id (cAppeal t) fAppeal) = true ∧ id ∈ pendM (wOut x id (cAppeal t) fAppeal) ∧ okM x t = true ∧ canM x t = false := by
  obtain ⟨k, hk, hid, hg, hc, hgo, he⟩ := with_cases h
  simp only [cAppeal, Bool.and_eq_true] at hc
  rw [he]
  refine ⟨hgo, ?_, by simp [okM, hg, hc.1.2], ?_⟩
  · rw [pendM_true hgo]
    exact List.mem_map.2 ⟨fAppeal x[k], List.mem_filter.2 ⟨by
      have := List.getElem_mem (l := x.set k (fAppeal x[k])) (n := k) (by simpa using hk)
      rwa [List.getElem_set_self] at this, rfl⟩, hid⟩
  · have : x.any (appB t) = true := by
      rw [List.any_eq_true]
      exact ⟨x[k], List.getElem_mem hk, by simp only [appB, Bool.and_eq_true]; exact ⟨hc.1.1, hc.2⟩⟩
    simp [canM, this]
theorem can_none {x : List Prot} {t : Int} (h : canM x t = true) : pendM x = [] := by
  simp only [canM, Bool.and_eq_true] at h
  rw [pendM_true h.1.1.1]
  simpa using h.1.2
theorem about_by {x : List Prot} {r y : Int} (h : y ∈ aboutM x r) : y ∉ byM x r := by
  unfold aboutM at h
  split at h
  · rename_i hok
    simp only [byM, hok, if_true]
    simp only [okA, Bool.and_eq_true] at hok
    intro h2
    obtain ⟨p, hp, rfl⟩ := List.mem_map.1 h
    obtain ⟨q, hq, hqe⟩ := List.mem_map.1 h2
    obtain ⟨hp1, hp2⟩ := List.mem_filter.1 hp
    obtain ⟨hq1, hq2⟩ := List.mem_filter.1 hq
    obtain ⟨i, hi, rfl⟩ := List.getElem_of_mem hp1
    obtain ⟨j, hj, rfl⟩ := List.getElem_of_mem hq1
    have := id_inj hok.1 hj hi hqe
    subst this
    have hs := good_at hok.1 hj
    simp only [beq_iff_eq] at hp2 hq2
    simp [specOne, hp2, hq2] at hs
  · simp at h
theorem about_i64 {x : List Prot} {r y : Int} (h : y ∈ aboutM x r) : I64 y := by
  unfold aboutM at h
  split at h
  · rename_i hok
    simp only [okA, Bool.and_eq_true] at hok
    obtain ⟨p, hp, rfl⟩ := List.mem_map.1 h
    exact (good_ok hok.1 p (List.mem_filter.1 hp).1).1
  · simp at h
end Go.Proofs.Ytabihggfnofcbaa
