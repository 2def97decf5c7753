/- Plain: heats, those who finished, and their orders. No condition. -/
import Derived.Test.YtabgmbmaakglkaaSortQ
namespace Go.Proofs.Ytabgmbmaakglkaa

/-- What a heat means. -/
structure HK where
  runners : List Int
  times : List Int
/-- Who finished: the place in the heat, the time, the runner. -/
structure Fns where
  place : Int
  time : Int
  runner : Int

def GoodH (h : HK) : Prop := (2 ≤ h.runners.length ∧ h.runners.length ≤ 6) ∧ h.times.length = h.runners.length ∧
  ∀ k (hk : k < h.runners.length) (ht : k < h.times.length), (1 ≤ h.runners[k] ∧ h.runners[k] ≤ 999) ∧ h.runners[k] ∉ h.runners.take k ∧ (0 ≤ h.times[k] ∧ h.times[k] ≤ 36000) ∧ (0 < h.times[k] → h.times[k] ∉ h.times.take k)
noncomputable def goodH (h : HK) : Bool := @decide (GoodH h) (Classical.propDecidable _)
theorem goodH_iff {h : HK} : goodH h = true ↔ GoodH h := by simp [goodH]
theorem goodH_true {h : HK} (g : GoodH h) : goodH h = true := goodH_iff.2 g
theorem goodH_false {h : HK} (g : ¬ GoodH h) : goodH h = false := by simp [goodH, g]
def GoodR (ks : List HK) : Prop := (∀ h ∈ ks, GoodH h) ∧ (ks.flatMap HK.runners).Nodup ∧ 1 ≤ ks.length ∧ ks.length ≤ 4
noncomputable def goodR (ks : List HK) : Bool := @decide (GoodR ks) (Classical.propDecidable _)
theorem goodR_iff {ks : List HK} : goodR ks = true ↔ GoodR ks := by simp [goodR]
theorem goodR_true {ks : List HK} (g : GoodR ks) : goodR ks = true := goodR_iff.2 g
theorem goodR_false {ks : List HK} (g : ¬ GoodR ks) : goodR ks = false := by simp [goodR, g]

/-- The order of those who finished. -/
def tmAt (h : HK) (i : Nat) : Int := h.times.getD i 0
def rnAt (h : HK) (i : Nat) : Int := h.runners.getD i 0
def fnAt (h : HK) (i : Nat) : Fns := ⟨0, tmAt h i, rnAt h i⟩
def fin1 (h : HK) (i : Nat) : Bool := decide (0 < tmAt h i)
def rawI (h : HK) : List Nat := (List.range h.runners.length).filter (fin1 h)
def ltT (a b : Fns) : Bool := decide (a.time < b.time)
def ltJ (h : HK) (i j : Nat) : Bool := decide (tmAt h i < tmAt h j)
def ordI (h : HK) : List Nat := putAll (ltJ h) (rawI h)
def placed (l : List Fns) : List Fns := l.mapIdx fun i f => { f with place := i }
def finN (h : HK) : List Fns := placed ((ordI h).map (fnAt h))
def allF (ks : List HK) : List Fns := ks.flatMap finN

theorem placeIn_map {α β : Type} (f : α → β) (lt : β → β → Bool) (pre : List α) (x : α) : ∀ k, placeIn lt (pre.map f) (f x) k = placeIn (fun a b => lt (f a) (f b)) pre x k
  | 0 => rfl
  | k + 1 => by
    unfold placeIn
    rw [List.getElem?_map]
    cases pre[k]? with
    | none => rfl
    | some y => simp only [Option.map_some]; rw [placeIn_map f lt pre x k]
theorem putIn_map {α β : Type} (f : α → β) (lt : β → β → Bool) (pre : List α) (x : α) : putIn lt (pre.map f) (f x) = (putIn (fun a b => lt (f a) (f b)) pre x).map f := by
  unfold putIn
  rw [List.length_map, placeIn_map]
  simp
theorem putAll_map {α β : Type} (f : α → β) (lt : β → β → Bool) (xs : List α) : putAll lt (xs.map f) = (putAll (fun a b => lt (f a) (f b)) xs).map f := by
  unfold putAll
  have : ∀ (xs acc : List α), (xs.map f).foldl (putIn lt) (acc.map f) = (xs.foldl (putIn fun a b => lt (f a) (f b)) acc).map f := by
    intro xs
    induction xs with
    | nil => intro acc; rfl
    | cons x xs ih => intro acc; simp only [List.map_cons, List.foldl_cons]; rw [putIn_map, ih]
  simpa using this xs []
theorem ordI_map (h : HK) : (ordI h).map (fnAt h) = putAll ltT ((rawI h).map (fnAt h)) := by rw [putAll_map]; rfl
/-- Two lists of the same things, both in order: one list, where ties are one thing. -/
theorem sorted_one {α : Type} {lt : α → α → Bool} {l1 l2 : List α} (hp : l1.Perm l2) (h1 : l1.Pairwise fun a b => lt b a = false) (h2 : l2.Pairwise fun a b => lt b a = false)
    (hT : ∀ a ∈ l1, ∀ b ∈ l1, lt a b = false → lt b a = false → a = b) : l1 = l2 :=
  List.Perm.eq_of_pairwise (le := fun a b => lt b a = false) (fun a b ha hb h h' => hT a ha b (hp.mem_iff.2 hb) h' h) h1 h2 hp

theorem ordT : Ord ltT := ⟨fun x y h => by simp [ltT] at *; omega, fun x y z h1 h2 => by simp [ltT] at *; omega⟩
def ltTR (a b : Fns) : Bool := decide (a.time < b.time) || (decide (a.time = b.time) && decide (a.runner < b.runner))
def ltPTR (a b : Fns) : Bool := decide (a.place < b.place) || (decide (a.place = b.place) && ltTR a b)
theorem ltTR_iff {a b : Fns} : ltTR a b = true ↔ a.time < b.time ∨ a.time = b.time ∧ a.runner < b.runner := by simp [ltTR]
theorem ltPTR_iff {a b : Fns} : ltPTR a b = true ↔ a.place < b.place ∨ a.place = b.place ∧ (a.time < b.time ∨ a.time = b.time ∧ a.runner < b.runner) := by simp [ltPTR, ltTR_iff]
theorem ltTR_no {a b : Fns} : ltTR a b = false ↔ ¬ (a.time < b.time ∨ a.time = b.time ∧ a.runner < b.runner) := by rw [← ltTR_iff]; simp
theorem ltPTR_no {a b : Fns} : ltPTR a b = false ↔ ¬ (a.place < b.place ∨ a.place = b.place ∧ (a.time < b.time ∨ a.time = b.time ∧ a.runner < b.runner)) := by rw [← ltPTR_iff]; simp
theorem ordTR : Ord ltTR := ⟨fun x y h => by rw [ltTR_iff] at h; rw [ltTR_no]; omega, fun x y z h1 h2 => by rw [ltTR_no] at *; omega⟩
theorem ordPTR : Ord ltPTR := ⟨fun x y h => by rw [ltPTR_iff] at h; rw [ltPTR_no]; omega, fun x y z h1 h2 => by rw [ltPTR_no] at *; omega⟩
def ltB (pl : Bool) : Fns → Fns → Bool := if pl then ltPTR else ltTR

theorem placed_len (l : List Fns) : (placed l).length = l.length := by simp [placed]
theorem placed_get {l : List Fns} {i : Nat} (h : i < (placed l).length) : (placed l)[i] = { l[i]'(by simpa [placed] using h) with place := (i : Int) } := by simp [placed]
theorem placed_runners (l : List Fns) : (placed l).map Fns.runner = l.map Fns.runner := by
  apply List.ext_getElem
  · simp [placed]
  · intro i h1 h2; simp [placed]
theorem finN_len (h : HK) : (finN h).length = (rawI h).length := by simp [finN, placed_len, ordI, putAll_len]
theorem rawI_len (h : HK) : (rawI h).length ≤ h.runners.length := by
  have := List.length_filter_le (fin1 h) (List.range h.runners.length)
  simpa [rawI] using this
theorem rawI_mem {h : HK} {i : Nat} : i ∈ rawI h ↔ i < h.runners.length ∧ 0 < tmAt h i := by simp [rawI, fin1]
theorem ordI_mem {h : HK} {i : Nat} : i ∈ ordI h ↔ i < h.runners.length ∧ 0 < tmAt h i := by rw [← rawI_mem]; exact (putAll_perm _ _).mem_iff
theorem rawI_nodup (h : HK) : (rawI h).Nodup := List.Nodup.sublist List.filter_sublist List.nodup_range
theorem ordI_nodup (h : HK) : (ordI h).Nodup := (putAll_perm _ _).symm.nodup (rawI_nodup h)
theorem ordI_len (h : HK) : (ordI h).length ≤ h.runners.length := by unfold ordI; rw [putAll_len]; exact rawI_len h
theorem tmAt_eq {h : HK} {i : Nat} (hi : i < h.times.length) : tmAt h i = h.times[i] := by simp [tmAt, hi]
theorem rnAt_eq {h : HK} {i : Nat} (hi : i < h.runners.length) : rnAt h i = h.runners[i] := by simp [rnAt, hi]
theorem good_times {h : HK} (g : GoodH h) {i j : Nat} (hi : i < h.runners.length) (hj : j < h.runners.length) (h0 : 0 < tmAt h j) (hij : i < j) : tmAt h i ≠ tmAt h j := by
  have hl := g.2.1
  have h1 := (g.2.2 j hj (by omega)).2.2.2
  rw [tmAt_eq (by omega)] at h0 ⊢
  rw [tmAt_eq (by omega)]
  intro e
  refine h1 h0 ?_
  rw [← e]
  exact List.mem_take_iff_getElem.2 ⟨i, by omega, rfl⟩
theorem good_runners {h : HK} (g : GoodH h) : h.runners.Nodup := by
  rw [List.nodup_iff_pairwise_ne, List.pairwise_iff_getElem]
  intro i j hi hj hij e
  have hl := g.2.1
  refine (g.2.2 j hj (by omega)).2.1 ?_
  rw [← e]
  exact List.mem_take_iff_getElem.2 ⟨i, by omega, rfl⟩
/-- In a valid heat no two who finished have one time. -/
theorem raw_tie {h : HK} (g : GoodH h) : ∀ a ∈ (rawI h).map (fnAt h), ∀ b ∈ (rawI h).map (fnAt h), ltT a b = false → ltT b a = false → a = b := by
  intro a ha b hb h1 h2
  obtain ⟨i, hi, rfl⟩ := List.mem_map.1 ha
  obtain ⟨j, hj, rfl⟩ := List.mem_map.1 hb
  rw [rawI_mem] at hi hj
  have h1' : ¬ tmAt h i < tmAt h j := of_decide_eq_false h1
  have h2' : ¬ tmAt h j < tmAt h i := of_decide_eq_false h2
  have e : tmAt h i = tmAt h j := by omega
  rcases Nat.lt_trichotomy i j with hij | hij | hij
  · exact absurd e (good_times g hi.1 hj.1 hj.2 hij)
  · rw [hij]
  · exact absurd e.symm (good_times g hj.1 hi.1 hi.2 hij)
/-- What a sort by time makes of them. -/
theorem sort_finN {h : HK} (g : GoodH h) {l : List Fns} (hp : ((rawI h).map (fnAt h)).Perm l) (hs : l.Pairwise fun a b => ltT b a = false) : l = (ordI h).map (fnAt h) := by
  rw [ordI_map]
  have hm := fun x => hp.mem_iff (a := x)
  refine sorted_one (hp.symm.trans (putAll_perm ltT _).symm) hs (putAll_ordered ordT _) fun a ha b hb => raw_tie g a ((hm a).2 ha) b ((hm b).2 hb)
theorem finN_mem {h : HK} {f : Fns} (hf : f ∈ finN h) : ∃ i, i < h.runners.length ∧ 0 < tmAt h i ∧ f.time = tmAt h i ∧ f.runner = rnAt h i ∧ 0 ≤ f.place ∧ f.place < (ordI h).length := by
  obtain ⟨k, hk, rfl⟩ := List.getElem_of_mem hf
  unfold finN at hk ⊢
  rw [placed_get hk]
  have hk2 : k < (ordI h).length := by simpa [placed_len] using hk
  have hm := ordI_mem.1 (List.getElem_mem hk2)
  refine ⟨(ordI h)[k], hm.1, hm.2, by simp [fnAt], by simp [fnAt], by simp, by simp; omega⟩
theorem finN_runners (h : HK) : (finN h).map Fns.runner = (ordI h).map (rnAt h) := by
  unfold finN
  rw [placed_runners, List.map_map]
  rfl
theorem rn_range (h : HK) : (List.range h.runners.length).map (rnAt h) = h.runners := by
  apply List.ext_getElem (by simp)
  intro i h1 h2
  simp [rnAt, h2]
theorem finN_nodup {h : HK} (g : h.runners.Nodup) : ((finN h).map Fns.runner).Nodup := by
  rw [finN_runners]
  have h1 : ((rawI h).map (rnAt h)).Nodup := by
    refine List.Nodup.sublist ?_ g
    have := (List.filter_sublist (p := fin1 h) (l := List.range h.runners.length)).map (rnAt h)
    rwa [rn_range] at this
  exact ((putAll_perm (ltJ h) (rawI h)).map (rnAt h)).symm.nodup h1
theorem finN_sub {h : HK} {r : Int} (hr : r ∈ (finN h).map Fns.runner) : r ∈ h.runners := by
  rw [finN_runners] at hr
  obtain ⟨i, hi, rfl⟩ := List.mem_map.1 hr
  rw [rnAt_eq (ordI_mem.1 hi).1]
  exact List.getElem_mem _
theorem flat_cons_nodup {ks : List HK} : (ks.flatMap HK.runners).Nodup ↔ (∀ h ∈ ks, h.runners.Nodup) ∧ ks.Pairwise fun a b => ∀ x ∈ a.runners, ∀ y ∈ b.runners, x ≠ y := by
  rw [List.nodup_iff_pairwise_ne, List.pairwise_flatMap]
  constructor
  · rintro ⟨h1, h2⟩; exact ⟨fun h hh => List.nodup_iff_pairwise_ne.2 (h1 h hh), h2⟩
  · rintro ⟨h1, h2⟩; exact ⟨fun h hh => List.nodup_iff_pairwise_ne.1 (h1 h hh), h2⟩
/-- In a valid round who finished has a runner's number of its own. -/
theorem allF_nodup {ks : List HK} (g : (ks.flatMap HK.runners).Nodup) : ((allF ks).map Fns.runner).Nodup := by
  obtain ⟨h1, h2⟩ := flat_cons_nodup.1 g
  unfold allF
  rw [List.map_flatMap, List.nodup_iff_pairwise_ne, List.pairwise_flatMap]
  refine ⟨fun h hh => List.nodup_iff_pairwise_ne.1 (finN_nodup (h1 h hh)), h2.imp fun hab x hx y hy => hab x (finN_sub hx) y (finN_sub hy)⟩
theorem one_runner {l : List Fns} (g : (l.map Fns.runner).Nodup) {a b : Fns} (ha : a ∈ l) (hb : b ∈ l) (e : a.runner = b.runner) : a = b := by
  obtain ⟨i, hi, rfl⟩ := List.getElem_of_mem ha
  obtain ⟨j, hj, rfl⟩ := List.getElem_of_mem hb
  rw [List.nodup_iff_pairwise_ne, List.pairwise_iff_getElem] at g
  have hi' : i < (l.map Fns.runner).length := by simpa using hi
  have hj' : j < (l.map Fns.runner).length := by simpa using hj
  rcases Nat.lt_trichotomy i j with hij | hij | hij
  · exact absurd (by simpa using e) (g i j hi' hj' hij)
  · subst hij; rfl
  · exact absurd (by simpa using e.symm) (g j i hj' hi' hij)
theorem allF_take {ks : List HK} {k : Nat} (h : k < ks.length) : allF (ks.take (k + 1)) = allF (ks.take k) ++ finN ks[k] := by
  unfold allF
  rw [List.take_succ_eq_append_getElem h, List.flatMap_append]
  simp
theorem allF_len {ks : List HK} (g : ∀ h ∈ ks, GoodH h) : (allF ks).length ≤ 6 * ks.length := by
  induction ks with
  | nil => simp [allF]
  | cons h ks ih =>
    have h1 := ih fun x hx => g x (by simp [hx])
    have h2 := (g h (by simp)).1.2
    have h3 := finN_len h
    have h4 := rawI_len h
    simp only [allF, List.flatMap_cons, List.length_append, List.length_cons] at h1 ⊢
    omega
theorem goodR_len {ks : List HK} (g : GoodR ks) : (allF ks).length ≤ 24 := by have := allF_len g.1; have := g.2.2.2; omega
/-- Who goes on directly, the others, and the lucky ones. -/
def firstN (ks : List HK) (d : Int) : List Fns := (allF ks).filter fun f => decide (f.place < d)
def restN (ks : List HK) (d : Int) : List Fns := (allF ks).filter fun f => !decide (f.place < d)
def luckyN (ks : List HK) (d l : Int) : List Fns := (putAll ltTR (restN ks d)).take (min l.toNat (restN ks d).length)
theorem rest_tie {ks : List HK} (g : (ks.flatMap HK.runners).Nodup) (d : Int) : ∀ a ∈ restN ks d, ∀ b ∈ restN ks d, ltTR a b = false → ltTR b a = false → a = b := by
  intro a ha b hb h1 h2
  rw [ltTR_no] at h1 h2
  exact one_runner (allF_nodup g) (List.mem_filter.1 ha).1 (List.mem_filter.1 hb).1 (by omega)
theorem all_tie {ks : List HK} (g : (ks.flatMap HK.runners).Nodup) : ∀ a ∈ allF ks, ∀ b ∈ allF ks, ltPTR a b = false → ltPTR b a = false → a = b := by
  intro a ha b hb h1 h2
  rw [ltPTR_no] at h1 h2
  exact one_runner (allF_nodup g) ha hb (by omega)
theorem sort_rest {ks : List HK} (g : (ks.flatMap HK.runners).Nodup) (d : Int) {l : List Fns} (hp : (restN ks d).Perm l) (hs : l.Pairwise fun a b => ltTR b a = false) : l = putAll ltTR (restN ks d) := by
  have hm := fun x => hp.mem_iff (a := x)
  exact sorted_one (hp.symm.trans (putAll_perm ltTR _).symm) hs (putAll_ordered ordTR _) fun a ha b hb => rest_tie g d a ((hm a).2 ha) b ((hm b).2 hb)
theorem sort_all {ks : List HK} (g : (ks.flatMap HK.runners).Nodup) {l : List Fns} (hp : (allF ks).Perm l) (hs : l.Pairwise fun a b => ltPTR b a = false) : l = putAll ltPTR (allF ks) := by
  have hm := fun x => hp.mem_iff (a := x)
  exact sorted_one (hp.symm.trans (putAll_perm ltPTR _).symm) hs (putAll_ordered ordPTR _) fun a ha b hb => all_tie g a ((hm a).2 ha) b ((hm b).2 hb)
/-- Photo finishes: pairs of neighbours of one heat. -/
def nearAt (q : Int) (l : List Fns) (i : Nat) : List (List Int) :=
  match l[i]?, l[i - 1]? with
  | some b, some a => if 0 < b.place ∧ b.time - a.time ≤ q then [[a.runner, b.runner]] else []
  | _, _ => []
def nearN (q : Int) (l : List Fns) (k : Nat) : List (List Int) := (List.range k).flatMap (nearAt q l)
theorem nearN_zero (q : Int) (l : List Fns) : nearN q l 0 = [] := rfl
theorem nearN_succ (q : Int) (l : List Fns) (k : Nat) : nearN q l (k + 1) = nearN q l k ++ nearAt q l k := by simp [nearN, List.range_succ, List.flatMap_append]
theorem nearAt_get {q : Int} {l : List Fns} {i : Nat} (h : i < l.length) (h1 : i - 1 < l.length) : nearAt q l i = if 0 < l[i].place ∧ l[i].time - l[i - 1].time ≤ q then [[l[i - 1].runner, l[i].runner]] else [] := by
  simp [nearAt, h, h1]
theorem finN_place {h : HK} {i : Nat} (hi : i < (finN h).length) : (finN h)[i].place = i := by
  have hi' : i < (placed ((ordI h).map (fnAt h))).length := hi
  exact congrArg Fns.place (placed_get hi')
theorem nearAt_all {q : Int} {ks : List HK} {k i : Nat} (h : k < ks.length) (hi : i < (finN ks[k]).length) : nearAt q (allF ks) ((allF (ks.take k)).length + i) = if 0 < i then nearAt q (finN ks[k]) i else [] := by
  have hsp : allF ks = allF (ks.take k) ++ (finN ks[k] ++ allF (ks.drop (k + 1))) := by
    conv => lhs; rw [← List.take_append_drop k ks]
    unfold allF
    rw [List.flatMap_append, List.drop_eq_getElem_cons h, List.flatMap_cons]
  have hl : (allF (ks.take k)).length + i < (allF ks).length := by rw [hsp]; simp; omega
  have hg : ∀ j (hj : j < (finN ks[k]).length) (hl : (allF (ks.take k)).length + j < (allF ks).length), (allF ks)[(allF (ks.take k)).length + j] = (finN ks[k])[j] := by
    intro j hj hl
    have : (allF ks)[(allF (ks.take k)).length + j]? = some (finN ks[k])[j] := by
      rw [hsp, List.getElem?_append_right (by omega), Nat.add_sub_cancel_left, List.getElem?_append_left hj, List.getElem?_eq_getElem hj]
    exact Option.some.inj ((List.getElem?_eq_getElem hl).symm.trans this)
  rw [nearAt_get hl (by omega), hg i hi hl, finN_place hi]
  by_cases h0 : 0 < i
  · have e : (allF (ks.take k)).length + i - 1 = (allF (ks.take k)).length + (i - 1) := by omega
    have hg1 := hg (i - 1) (by omega) (by omega)
    have hg2 : (allF ks)[(allF (ks.take k)).length + i - 1]'(by omega) = (finN ks[k])[i - 1] := by
      rw [← hg1]; congr 1
    rw [if_pos h0, nearAt_get hi (by omega), finN_place hi, hg2]
  · rw [if_neg h0, if_neg (by omega)]
end Go.Proofs.Ytabgmbmaakglkaa
