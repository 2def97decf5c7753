/- Plain: what FnHeats asks of placings, of those who go on, and of the limit. No condition. -/
import Derived.Test.YtabgmbmaakglkaaGpQ
import Derived.Test.YtabgmbmaakglkaaHtN
import Derived.Test.YtabgmbmaakglkaaHtF
namespace Go.Proofs.Ytabgmbmaakglkaa
open Go Go.RowKit

theorem ordJ (h : HK) : Ord (ltJ h) := ⟨fun x y h => by simp [ltJ] at *; omega, fun x y z h1 h2 => by simp [ltJ] at *; omega⟩
/-- Neighbours of a placing: the gap is told, and above 0. -/
theorem placing_gap {h : HK} (g : goodH h = true) {i : Nat} (hi : i < (plV h).length) (h0 : 0 < i) (h1 : i - 1 < (plV h).length) : gapB h (plV h)[i - 1] (plV h)[i] = true ∧ 0 < gapV h (plV h)[i - 1] (plV h)[i] := by
  have gg := goodH_iff.1 g
  have hl := gg.2.1
  have e := plV_yes g
  have hio : i < (ordI h).length := by rw [e, List.length_map] at hi; exact hi
  have hjo : i - 1 < (ordI h).length := by omega
  have hb : ∀ (j : Nat) (hj : j < (ordI h).length) (hj' : j < (plV h).length), (plV h)[j] = h.runners[(ordI h)[j]]'(ordI_mem.1 (List.getElem_mem hj)).1 := fun j hj hj' => by
    simp only [e, List.getElem_map]
    exact rnAt_eq _
  have ht : ∀ (j : Nat) (hj : j < (ordI h).length) (hj' : j < (plV h).length), tOf h (plV h)[j] = tmAt h (ordI h)[j] ∧ 0 < tmAt h (ordI h)[j] := fun j hj hj' => by
    have hm := ordI_mem.1 (List.getElem_mem hj)
    refine ⟨?_, hm.2⟩
    rw [hb j hj hj', tOf_at gg hm.1 (by omega), tmAt_eq (by omega)]
  obtain ⟨ta, pa⟩ := ht (i - 1) hjo h1
  obtain ⟨tb, pb⟩ := ht i hio hi
  have gq := gapB_yes (a := (plV h)[i - 1]) (b := (plV h)[i]) g (by rw [ta]; omega) (by rw [tb]; omega)
  refine ⟨gq, ?_⟩
  rw [gap_yes gq, ta, tb]
  have hs := List.pairwise_iff_getElem.1 (putAll_ordered (ordJ h) (rawI h)) (i - 1) i hjo hio (by omega)
  have hle : tmAt h (ordI h)[i - 1] ≤ tmAt h (ordI h)[i] := by
    have : ltJ h (ordI h)[i] (ordI h)[i - 1] = false := hs
    simp [ltJ] at this
    exact this
  have hma := ordI_mem.1 (List.getElem_mem hjo)
  have hmb := ordI_mem.1 (List.getElem_mem hio)
  have hne : (ordI h)[i - 1] ≠ (ordI h)[i] := by
    have := ordI_nodup h
    rw [List.nodup_iff_pairwise_ne, List.pairwise_iff_getElem] at this
    exact this (i - 1) i hjo hio (by omega)
  have htne : tmAt h (ordI h)[i - 1] ≠ tmAt h (ordI h)[i] := by
    rcases Nat.lt_or_gt_of_ne hne with hlt | hlt
    · exact good_times gg hma.1 hmb.1 hmb.2 hlt
    · exact fun e => good_times gg hmb.1 hma.1 hma.2 hlt e.symm
  omega

theorem firsts_len (d : Int) : ∀ (l : List Fns) (k : Nat), (∀ i (h : i < l.length), l[i].place = ((k + i : Nat) : Int)) → (l.filter fun f => decide (f.place < d)).length ≤ (d - k).toNat
  | [], k, _ => by simp
  | f :: l, k, h => by
    have ih := firsts_len d l (k + 1) (fun i hi => by have := h (i + 1) (by simpa using hi); simp only [List.getElem_cons_succ] at this; rw [this]; omega)
    have h0 := h 0 (by simp)
    simp only [List.getElem_cons_zero, Nat.add_zero] at h0
    rw [List.filter_cons]
    by_cases hd : f.place < d
    · simp only [hd, decide_true, if_true, List.length_cons]
      omega
    · simp only [hd, decide_false, Bool.false_eq_true, if_false]
      omega
theorem finN_firsts (h : HK) (d : Int) : ((finN h).filter fun f => decide (f.place < d)).length ≤ d.toNat := by
  have := firsts_len d (finN h) 0 (fun i hi => by rw [finN_place hi]; simp)
  simpa using this
theorem allF_firsts (d : Int) : ∀ ks : List HK, ((allF ks).filter fun f => decide (f.place < d)).length ≤ d.toNat * ks.length
  | [] => by simp [allF]
  | k :: ks => by
    have e : allF (k :: ks) = finN k ++ allF ks := by simp [allF]
    rw [e, List.filter_append, List.length_append, List.length_cons, Nat.mul_add]
    have h1 := finN_firsts k d
    have h2 := allF_firsts d ks
    omega
theorem goF_few {ks : List HK} {d l : Int} (h : askG ks d l = true) : (goF ks d l).length ≤ d.toNat * ks.length := by
  unfold goF
  rw [List.length_map, gF_yes h]
  exact allF_firsts d ks
theorem goL_few {ks : List HK} {d l : Int} (h : askG ks d l = true) : ((goL ks d l).length : Int) ≤ l := by
  have hp := (askG_parts h).2.2
  unfold goL
  rw [List.length_map, gL_yes h]
  unfold luckyN
  rw [List.length_take]
  omega
theorem go_nodup (ks : List HK) (d l : Int) : (goF ks d l ++ goL ks d l).Nodup := by
  cases h : askG ks d l with
  | false => simp [goF, goL, gF_no h, gL_no h]
  | true =>
    unfold goF goL
    rw [gF_yes h, gL_yes h, ← List.map_append]
    have hg := goodR_iff.1 (askG_parts h).1
    have h1 := allF_nodup hg.2.1
    have hp : (firstN ks d ++ restN ks d).Perm (allF ks) := List.filter_append_perm (fun f : Fns => decide (f.place < d)) (allF ks)
    have hp2 : (firstN ks d ++ putAll ltTR (restN ks d)).Perm (allF ks) := ((putAll_perm ltTR (restN ks d)).append_left _).trans hp
    have h2 := (hp2.map Fns.runner).symm.nodup h1
    refine List.Nodup.sublist ?_ h2
    refine List.Sublist.map _ ?_
    unfold luckyN
    exact List.Sublist.append_left (List.take_sublist _ _) _
theorem goL_not_first {ks : List HK} {d l : Int} {i : Nat} (hi : i < (goL ks d l).length) : (goF ks d l).any (fun y => (goL ks d l)[i] == y) = false := by
  rw [any_dec, decide_eq_false_iff_not]
  have h := go_nodup ks d l
  rw [List.nodup_iff_pairwise_ne, List.pairwise_append] at h
  exact fun hm => h.2.2 _ hm _ (List.getElem_mem hi) rfl
theorem goL_not_before {ks : List HK} {d l : Int} {i : Nat} (hi : i < (goL ks d l).length) : ((goL ks d l).take i).any (fun y => (goL ks d l)[i] == y) = false := by
  rw [any_dec, decide_eq_false_iff_not]
  have h := go_nodup ks d l
  rw [List.nodup_append] at h
  exact nodup_steps.1 h.2.1 i hi
theorem goL_told (ks : List HK) (d l : Int) : limB ks d l = decide ((0 : Int) < ((goL ks d l).length : Int)) := by
  unfold limB goL
  rw [List.length_map, Bool.eq_iff_iff]
  simp
/-- No lucky one is slower than the limit. -/
theorem limit_ok {ks : List HK} {d l : Int} (ht : limB ks d l = true) {b : Nat} (hb : b < ks.length) {k : Nat} (hk : k < ks[b].runners.length) (hkt : k < ks[b].times.length)
    (hm : (goL ks d l).any (fun y => ks[b].runners[k] == y) = true) : ks[b].times[k] ≤ limV ks d l := by
  have hpos : 0 < (gL ks d l).length := by simpa [limB] using ht
  obtain ⟨n, hn⟩ : ∃ n, (gL ks d l).length = n + 1 := ⟨(gL ks d l).length - 1, by omega⟩
  have hnl : n < (gL ks d l).length := by omega
  have hlv := (lim_yes hn).2 hnl
  have ha : askG ks d l = true := by
    cases h : askG ks d l with
    | true => rfl
    | false => rw [gL_no h] at hpos; simp at hpos
  have hg := goodR_iff.1 (askG_parts ha).1
  rw [any_dec, decide_eq_true_iff] at hm
  obtain ⟨f, hf, hfr⟩ := List.mem_map.1 (show ks[b].runners[k] ∈ (gL ks d l).map Fns.runner from hm)
  obtain ⟨j, hj, hfj⟩ := List.getElem_of_mem hf
  have hsort : (putAll ltTR (restN ks d)).Pairwise fun a b => ltTR b a = false := putAll_ordered ordTR _
  have hle : f.time ≤ (gL ks d l)[n].time := by
    have hsub : (gL ks d l).Pairwise fun a b => ltTR b a = false := by
      rw [gL_yes ha]
      exact hsort.sublist (List.take_sublist _ _)
    rcases Nat.lt_or_ge j n with hjn | hjn
    · have := List.pairwise_iff_getElem.1 hsub j n hj hnl hjn
      rw [hfj] at this
      have h9 := ltTR_no.1 this
      omega
    · have hje : j = n := by omega
      subst hje
      rw [hfj]; omega
  have hfa : f ∈ allF ks := by
    rw [gL_yes ha] at hf
    have h1 := List.mem_of_mem_take hf
    have h2 := (putAll_perm ltTR (restN ks d)).mem_iff.1 h1
    exact (List.mem_filter.1 h2).1
  obtain ⟨h', hh', hfh⟩ := List.mem_flatMap.1 hfa
  obtain ⟨i, hi, h0, htm, hrn, _⟩ := finN_mem hfh
  obtain ⟨a, haa, hae⟩ := List.getElem_of_mem hh'
  have hri : h'.runners[i] = ks[b].runners[k] := by rw [← rnAt_eq hi, ← hrn, hfr]
  have hab : a = b := by
    have hd := (flat_cons_nodup.1 hg.2.1).2
    rw [List.pairwise_iff_getElem] at hd
    rcases Nat.lt_trichotomy a b with hlt | he | hlt
    · exact absurd hri (hd a b haa hb hlt _ (by rw [hae]; exact List.getElem_mem hi) _ (List.getElem_mem hk))
    · exact he
    · exact absurd hri.symm (hd b a hb haa hlt _ (List.getElem_mem hk) _ (by rw [hae]; exact List.getElem_mem hi))
  subst hab
  subst hae
  have hgk := hg.1 _ (List.getElem_mem haa)
  have hik : i = k := by
    have h1 := idxOf_at (good_runners hgk) hi
    have h2 := idxOf_at (good_runners hgk) hk
    rw [hri] at h1
    omega
  subst hik
  rw [hlv, ← tmAt_eq hkt, ← htm]
  exact hle
end Go.Proofs.Ytabgmbmaakglkaa
