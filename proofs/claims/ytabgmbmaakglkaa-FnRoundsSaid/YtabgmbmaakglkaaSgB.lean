/- The walks of the program's GoingOn, LuckyLimit and RoundRank. No condition. -/
import Derived.Test.YtabgmbmaakglkaaSgA
import Derived.Test.YtabgmbmaakglkaaHtH
namespace Go.Proofs.Ytabgmbmaakglkaa
open Go Go.RowKit

set_option maxHeartbeats 2000000 in
theorem impl_GoingOn (xs : List Ht) (ks : List HK) (v : Value) (d l : Int) (w : World) (hks : xs.map Ht.k = ks) (h : HtS w v xs) (hl : xs.length ≤ 1048577) (_ : I64 d) (_ : I64 l) :
    Calls Try.prog 33 #[v, .int .i64 d, .int .i64 l] w fun e w' => ∃ r1 r2, e = .returned (.tuple #[r1, r2, .bool (askG ks d l)]) ∧
      Row w.heap.size 3 1 w' r1 ((goF ks d l).map ints) ∧ Row w.heap.size 3 1 w' r2 ((goL ks d l).map ints) ∧ Dis r1 r2 ∧ Below w.heap.size w w' := by
  subst hks
  have HC := Lib.hid (goingOn_any xs v d l w h hl)
  have HFL := Lib.hid (gF_len (xs.map Ht.k) d l)
  have HLL := Lib.hid (gL_len (xs.map Ht.k) d l)
  have HN := Lib.hid (fun h => gF_no (ks := xs.map Ht.k) (d := d) (l := l) h)
  have HN2 := Lib.hid (fun h => gL_no (ks := xs.map Ht.k) (d := d) (l := l) h)
  unfold goF goL
  generalize gF (xs.map Ht.k) d l = F at *
  generalize gL (xs.map Ht.k) d l = L at *
  generalize askG (xs.map Ht.k) d l = q at *
  clear h
  cases q with
  | false =>
    obtain rfl := HN.out rfl
    obtain rfl := HN2.out rfl
    go_enter Try.func33, Try.ntmps33
    go_wp2_with (go_at_call 62; refine HC.out.mono ?_; rintro e w1 ⟨r1, r2, rfl, row1, row2, hb1⟩)
    go_ret3
    exact ⟨_, _, rfl, Row.nil _ _ _ _, Row.nil _ _ _ _, Dis.nil _, hb1⟩
  | true =>
    go_enter Try.func33, Try.ntmps33
    go_wp2_with fail
    refine HC.out.mono ?_
    rintro e w1 ⟨r1, r2, rfl, row1, row2, hb1⟩
    go_wp2_with fail
    refine (runnersOf_any F _ w1 (Sl.of_flat row1) (by have := HFL.out; omega)).mono ?_
    rintro e w2 ⟨o1, rfl, rw1, hb2⟩
    go_wp2_with fail
    refine (runnersOf_any L _ w2 (Sl.of_flat (row2.below hb2)) (by have := HLL.out; omega)).mono ?_
    rintro e w3 ⟨o2, rfl, rw2, hb3⟩
    have hB2 := step_ hb1 (Nat.le_refl _) hb2
    go_wp2
    go_ret3
    exact ⟨_, _, rfl, (rw1.below hb3).mono hb1.size, rw2.mono hB2.size, Dis.new (n := w2.heap.size) (fun q hq => (rw1.lt q hq).2) (fun q hq => (rw2.lt q hq).1), step_ hB2 (Nat.le_refl _) hb3⟩

set_option maxRecDepth 100000 in
set_option maxHeartbeats 2000000 in
theorem impl_LuckyLimit (xs : List Ht) (ks : List HK) (v : Value) (d l : Int) (w : World) (hks : xs.map Ht.k = ks) (h : HtS w v xs) (hl : xs.length ≤ 1048577) (_ : I64 d) (_ : I64 l) :
    Calls Try.prog 29 #[v, .int .i64 d, .int .i64 l] w fun e w' => e = .returned (.tuple #[.int .i64 (limV ks d l), .bool (limB ks d l)]) ∧ Below w.heap.size w w' := by
  subst hks
  have HC := Lib.hid (goingOn_any xs v d l w h hl)
  have HN2 := Lib.hid (fun h => gL_no (ks := xs.map Ht.k) (d := d) (l := l) h)
  have HL6 := gL_len (xs.map Ht.k) d l
  have H0 := Lib.hid (fun h => lim_no (ks := xs.map Ht.k) (d := d) (l := l) h)
  have H1 := Lib.hid (fun n hn => lim_yes (ks := xs.map Ht.k) (d := d) (l := l) (n := n) hn)
  generalize gL (xs.map Ht.k) d l = L at *
  generalize askG (xs.map Ht.k) d l = q at *
  generalize limV (xs.map Ht.k) d l = V at *
  generalize limB (xs.map Ht.k) d l = B at *
  clear h
  cases q with
  | false =>
    obtain rfl := HN2.out rfl
    obtain ⟨rfl, rfl⟩ := H0.out rfl
    go_enter Try.func29, Try.ntmps29
    go_wp2_with (go_at_call 62; refine HC.out.mono ?_; rintro e w1 ⟨r1, r2, rfl, row1, row2, hb1⟩)
    go_ret2
    exact ⟨rfl, hb1⟩
  | true =>
    rcases Nat.eq_zero_or_pos L.length with hz | hz
    · obtain rfl := List.eq_nil_of_length_eq_zero hz
      obtain ⟨rfl, rfl⟩ := H0.out rfl
      clear hz HL6
      go_enter Try.func29, Try.ntmps29
      go_wp2_with fail
      refine HC.out.mono ?_
      rintro e w1 ⟨r1, r2, rfl, row1, row2, hb1⟩
      obtain ⟨A2, c2, rfl, hc2, hm2⟩ := row2.parts
      simp only [List.map_nil, List.length_nil] at row2 hc2 ⊢
      go_wp2
      go_ret2
      exact ⟨rfl, hb1⟩
    · obtain ⟨n, hn⟩ : ∃ n, L.length = n + 1 := ⟨L.length - 1, by omega⟩
      obtain ⟨rfl, hV⟩ := H1.out n hn
      have hlt : n < L.length := by omega
      have HV := Lib.hid (hV hlt)
      have HNN := Lib.hid hn
      clear hV hz H0 H1 hn
      go_enter Try.func29, Try.ntmps29
      go_wp2_with fail
      refine HC.out.mono ?_
      rintro e w1 ⟨r1, r2, rfl, row1, row2, hb1⟩
      obtain ⟨A2, c2, rfl, hc2, hm2⟩ := row2.parts
      simp only [List.length_map] at row2 hc2 ⊢
      obtain ⟨g, cap, he, hbg, hg, hcap⟩ := row2.form (by rw [List.length_map]; omega)
      simp only [Value.slice.injEq] at he
      obtain ⟨rfl, hq, rfl⟩ := he
      clear hq hcap hbg hg
      have hr1 := row2.range (k := n) (by rw [List.length_map]; exact hlt)
      rw [List.getElem_map] at hr1
      have hcc := (Fns.cellsI hr1).2.1
      rw [← HV.out] at hcc
      have e1 := HNN.out
      rw [e1]
      rw [e1] at hlt HL6
      have hwr : IntKind.i64.wrap (((n + 1 : Nat) : Int) - 1) = (n : Int) := by rw [IntKind.wrap_i64]; omega
      have hwr2 : IntKind.i64.wrap ((n : Int) + 1 - 1) = (n : Int) := by rw [IntKind.wrap_i64]; omega
      have hz1 : (0 : Int) ≤ (n : Int) := by omega
      have hz2 : (n : Int) < ((n + 1 : Nat) : Int) := by omega
      clear e1 hr1 row1 row2
      go_wp2
      go_ret2
      exact ⟨rfl, hb1⟩

set_option maxRecDepth 100000 in
set_option maxHeartbeats 4000000 in
theorem impl_RoundRank (xs : List Ht) (ks : List HK) (v : Value) (w : World) (hks : xs.map Ht.k = ks) (h : HtS w v xs) (hl : xs.length ≤ 1048577) :
    Calls Try.prog 31 #[v] w fun e w' => ∃ r, e = .returned (.tuple #[r, .bool (goodR ks)]) ∧ Row w.heap.size 3 1 w' r ((rkV ks).map ints) ∧ Below w.heap.size w w' := by
  subst hks
  have HG := Lib.hid (IsRound_any xs v w h hl)
  unfold rkV
  cases h1 : goodR (xs.map Ht.k) with
  | false =>
    have HF := Lib.hid (rkF_no h1)
    rw [HF.out]
    rw [h1] at HG
    clear h1 h
    go_enter Try.func31, Try.ntmps31
    go_wp2_with (go_at_call 49; refine HG.out.mono ?_; rintro e w' ⟨rfl, hb⟩)
    go_ret2
    exact ⟨_, rfl, Row.nil _ _ _ _, hb⟩
  | true =>
  have HF := Lib.hid (rkF_yes h1)
  rw [HF.out]
  rw [h1] at HG
  have hgr := goodR_iff.1 h1
  have HSR := Lib.hid (fun (y : List Fns) hp hs => sort_all hgr.2.1 (l := y) hp hs)
  have HGK := Lib.hid (show ∀ p ∈ xs, goodH p.k = true from fun p hp => goodH_true (hgr.1 _ (List.mem_map.2 ⟨p, hp, rfl⟩)))
  have HAL := Lib.hid (show ∀ k, k ≤ (xs.map Ht.k).length → (allF ((xs.map Ht.k).take k)).length ≤ 24 from fun k hk => allF_le h1 hk)
  have HI := Lib.hid h.2
  obtain ⟨A, c, rfl, hc, hm, hk⟩ := h.1.open_
  clear h HF hgr h1
  go_enter Try.func31, Try.ntmps31
  go_wp2_with fail
  refine HG.out.mono ?_
  rintro e w1 ⟨rfl, hb1⟩
  have HO1 := Lib.hid (show Own w 82 3 (w1.alloc (.cells #[] 82)) (.slice (some ⟨w1.heap.size, 0, none⟩) 0 0) [] from Own.nil hb1 _ rfl)
  clear hb1 HG
  go_wp2
  go_loopw [4, 13] (fun o1 i wr => ∃ k : Nat, k ≤ xs.length ∧ i = .int .i64 k ∧ Own w 82 3 wr o1 ((allF ((xs.map Ht.k).take k)).map Fns.I))
    (fun _ i _ => xs.length - (intOf i).toNat)
  case atStart => exact ⟨0, Nat.zero_le _, rfl, HO1.out⟩
  case round =>
    clear HO1
    obtain ⟨k, hkl, rfl, own1⟩ := hrel
    by_cases hlt : k < xs.length
    · obtain ⟨b, off, rfl, hat⟩ := flat_at hk (by omega)
      have hr0 := rangeAt_below (hat k hlt) own1.b
      have hin := HI.out _ (List.getElem_mem hlt)
      have HGP := Lib.hid (HGK.out _ (List.getElem_mem hlt))
      have HLN := Lib.hid (HAL.out (k + 1) (by rw [List.length_map]; omega))
      have HS := Lib.hid (show allF ((xs.map Ht.k).take (k + 1)) = allF ((xs.map Ht.k).take k) ++ finN xs[k].k by rw [allF_take (by rw [List.length_map]; exact hlt)]; simp)
      obtain ⟨p, hp⟩ : ∃ p, p = xs[k] := ⟨_, rfl⟩
      rw [← hp] at hr0 hin HGP HS
      obtain ⟨pre, hpre⟩ : ∃ pre, pre = allF ((xs.map Ht.k).take k) := ⟨_, rfl⟩
      rw [HS.out] at HLN
      rw [← hpre] at own1 HS HLN
      obtain ⟨F, hF⟩ : ∃ F, F = finN p.k := ⟨_, rfl⟩
      have hW := below_alloc (Below.refl wr.heap.size wr) (.cells #[.slice p.a p.n p.c, .slice p.b p.m p.d] 28)
      have HFIN := Lib.hid (finishers_any p _ (hin.below (step_ own1.b (Nat.le_refl _) hW)) HGP.out)
      rw [← hF] at HFIN HS HLN
      have HW := Lib.hid hW
      have HO := Lib.hid own1
      clear hp hpre hF hat hk hin hW own1
      go_wp2_with ((with_reducible refine at_load_ 28 ?_); refine Ht.loadImpl rfl _ rfl b (off + k * 2) rfl p hr0 ?_)
      refine HFIN.out.mono ?_
      rintro e w2 ⟨o, rfl, row2, hb2⟩
      have HO2 := Lib.hid (HO.out.below (step_ HW.out (Nat.le_refl _) hb2))
      obtain ⟨A2, c2, rfl, hc2, hm2⟩ := row2.parts
      simp only [List.length_map] at row2 hc2 ⊢
      have HSRC := Lib.hid (show Src w2 3 A2 F.length (F.map Fns.I) from Row.src row2 Fns.I_len Fns.I_one)
      have HLL := Lib.hid (show (pre.map Fns.I).length + F.length ≤ 2147483648 by rw [List.length_map]; have := HLN.out; rw [List.length_append] at this; omega)
      clear row2 hb2 HO HFIN
      go_wp2_with (at_builtin; refine tyFin.append rfl _ _ rfl w.heap.size _ _ rfl HO2.out.1 _ _ _ (F.map Fns.I) rfl HSRC.out HLL.out HO2.out.2.size ?_; intro o5 w5 hrow5 hg5 hat5)
      have HB5 := Lib.hid (HO2.out.2.grown hg5 HO2.out.2.size (fun q hq => (HO2.out.1.lt q hq).1))
      go_roundw
      case rel => exact ⟨k + 1, by omega, by go_num, by rw [HS.out, List.map_append]; exact ⟨hrow5, HB5.out⟩⟩
      case measure => simp [intOf]; omega
    · obtain rfl : k = xs.length := by omega
      have e : (xs.map Ht.k).take xs.length = xs.map Ht.k := List.take_of_length_le (by simp)
      have h2 := HAL.out xs.length (by simp)
      rw [e] at own1 h2
      have HRL := Lib.hid h2
      have HCALL := Lib.hid (sortFin_any cfPTR swoPTR 65 (enters_of Try.func65 (by kernel_rfl) rfl) (fun W x y => byPlace_any x y W) w.heap.size _ _ wr own1.1 (by have := HRL.out; omega))
      have HO1 := Lib.hid own1
      clear own1 e hk h2
      go_wp2_with fail
      refine HCALL.out.mono ?_
      rintro e w3 ⟨rfl, ys, hp, hs, row3, hg3⟩
      have HYS := Lib.hid (HSR.out ys hp (hs.imp fun h => by rw [← cfPTR_lt]; exact h))
      have HYL := Lib.hid (show ys.length ≤ 1048577 by have := hp.length_eq; have := HRL.out; omega)
      have HB3 := Lib.hid (HO1.out.2.grown hg3 HO1.out.2.size (fun q hq => (HO1.out.1.lt q hq).1))
      have HR3 := Lib.hid (runnersOf_any ys _ w3 (Sl.of_flat row3) HYL.out)
      clear hp hs hg3 HCALL HO1 row3
      go_wp2_with fail
      refine HR3.out.mono ?_
      rintro e w4 ⟨r4, rfl, row4, hb4⟩
      go_wp2
      go_ret2
      exact ⟨_, rfl, by rw [← HYS.out]; exact row4.mono HB3.out.size, step_ HB3.out (Nat.le_refl _) hb4⟩
end Go.Proofs.Ytabgmbmaakglkaa
