/- The walks of the reference's LuckyLimit, RoundRank and GoingOn. No condition. -/
import Derived.Test.YtabgmbmaakglkaaHtK
import Derived.OwnWalk
namespace Go.Proofs.Ytabgmbmaakglkaa
open Go Go.RowKit

set_option maxRecDepth 100000 in
set_option maxHeartbeats 2000000 in
theorem spec_LuckyLimit (xs : List Ht) (ks : List HK) (v : Value) (d l : Int) (w : World) (hks : xs.map Ht.k = ks) (h : HtS w v xs) (hl : xs.length ≤ 1048577) (_ : I64 d) (_ : I64 l) :
    Calls Try.prog 28 #[v, .int .i64 d, .int .i64 l] w fun e w' => e = .returned (.tuple #[.int .i64 (limV ks d l), .bool (limB ks d l)]) ∧ Below w.heap.size w w' := by
  subst hks
  have HA := Lib.hid (l18Asked_any xs v d l w h hl)
  cases ha : askG (xs.map Ht.k) d l with
  | false =>
    obtain ⟨e1, e2⟩ := lim_no (gL_no ha)
    rw [e1, e2]
    rw [ha] at HA
    clear e1 e2 h ha
    go_enter Try.func28, Try.ntmps28
    go_wp2_with (go_at_call 60; refine HA.out.mono ?_; rintro e w1 ⟨rfl, hb1⟩)
    go_ret2
    exact ⟨rfl, hb1⟩
  | true =>
    obtain ⟨hg, _, hl0, _⟩ := askG_parts ha
    obtain ⟨ln, rfl⟩ : ∃ n : Nat, l = (n : Int) := ⟨l.toNat, by omega⟩
    have HLU := Lib.hid (fun (s : After w) => l18Lucky_any xs v d ln s.w' (h.below s.hb) hg)
    have HL6 := gL_len (xs.map Ht.k) d (ln : Int)
    have H0 := Lib.hid (fun h => lim_no (ks := xs.map Ht.k) (d := d) (l := (ln : Int)) h)
    have H1 := Lib.hid (fun n hn => lim_yes (ks := xs.map Ht.k) (d := d) (l := (ln : Int)) (n := n) hn)
    rw [← gL_yes ha] at HLU
    rw [ha] at HA
    clear h ha hg hl0
    generalize gL (xs.map Ht.k) d (ln : Int) = L at *
    generalize limV (xs.map Ht.k) d (ln : Int) = V at *
    generalize limB (xs.map Ht.k) d (ln : Int) = B at *
    rcases Nat.eq_zero_or_pos L.length with hz | hz
    · obtain rfl := List.eq_nil_of_length_eq_zero hz
      obtain ⟨rfl, rfl⟩ := H0.out rfl
      clear hz HL6
      go_enter Try.func28, Try.ntmps28
      go_wp2_with fail
      refine HA.out.mono ?_
      rintro e w1 ⟨rfl, hb1⟩
      go_wp2_with fail
      refine (HLU.out ⟨w1, hb1⟩).mono ?_
      rintro e w2 ⟨r2, rfl, row2, hb2⟩
      simp only at row2 hb2
      obtain ⟨A2, c2, rfl, hc2, hm2⟩ := row2.parts
      simp only [List.map_nil, List.length_nil] at row2 hc2 ⊢
      have HB := Lib.hid (step_ hb1 (Nat.le_refl _) hb2)
      go_wp2
      go_ret2
      exact ⟨rfl, HB.out⟩
    · obtain ⟨n, hn⟩ : ∃ n, L.length = n + 1 := ⟨L.length - 1, by omega⟩
      obtain ⟨rfl, hV⟩ := H1.out n hn
      have hlt : n < L.length := by omega
      have HV := Lib.hid (hV hlt)
      have HNN := Lib.hid hn
      clear hV hz H0 H1 hn
      go_enter Try.func28, Try.ntmps28
      go_wp2_with fail
      refine HA.out.mono ?_
      rintro e w1 ⟨rfl, hb1⟩
      go_wp2_with fail
      refine (HLU.out ⟨w1, hb1⟩).mono ?_
      rintro e w2 ⟨r2, rfl, row2, hb2⟩
      simp only at row2 hb2
      obtain ⟨A2, c2, rfl, hc2, hm2⟩ := row2.parts
      simp only [List.length_map] at row2 hc2 ⊢
      have HB := Lib.hid (step_ hb1 (Nat.le_refl _) hb2)
      obtain ⟨g, cap, he, hbg, hg, hcap⟩ := row2.form (by rw [List.length_map]; omega)
      simp only [Value.slice.injEq] at he
      obtain ⟨rfl, hq, rfl⟩ := he
      clear hq hcap hbg hg
      have hr1 := row2.range (k := n) (by rw [List.length_map]; exact hlt)
      rw [List.getElem_map] at hr1
      have hcc := (Fns.cellsS hr1).2.1
      rw [← HV.out] at hcc
      have e1 := HNN.out
      rw [e1]
      rw [e1] at hlt HL6
      have hwr : IntKind.i64.wrap (((n + 1 : Nat) : Int) - 1) = (n : Int) := by rw [IntKind.wrap_i64]; omega
      have hwr2 : IntKind.i64.wrap ((n : Int) + 1 - 1) = (n : Int) := by rw [IntKind.wrap_i64]; omega
      have hz1 : (0 : Int) ≤ (n : Int) := by omega
      have hz2 : (n : Int) < ((n + 1 : Nat) : Int) := by omega
      clear e1 hr1 row2 hb1 hb2
      go_wp2
      go_ret2
      exact ⟨rfl, HB.out⟩

/- One round of 'out = append(out, list[i].runner)': OU the slot's row, HS the step. -/
set_option maxRecDepth 100000 in
set_option maxHeartbeats 4000000 in
theorem spec_RoundRank (xs : List Ht) (ks : List HK) (v : Value) (w : World) (hks : xs.map Ht.k = ks) (h : HtS w v xs) (hl : xs.length ≤ 1048577) :
    Calls Try.prog 30 #[v] w fun e w' => ∃ r, e = .returned (.tuple #[r, .bool (goodR ks)]) ∧ Row w.heap.size 3 1 w' r ((rkV ks).map ints) ∧ Below w.heap.size w w' := by
  subst hks
  have own0 : Own w 3 1 (w.alloc (.cells #[] 3)) (.slice (some ⟨w.heap.size, 0, none⟩) 0 0) [] := Own.nil (Below.refl _ _) _ rfl
  have HG := Lib.hid (l18Good_any xs v _ (h.below own0.2) hl)
  unfold rkV
  cases h1 : goodR (xs.map Ht.k) with
  | false =>
    have HF := Lib.hid (rkF_no h1)
    rw [HF.out]
    rw [h1] at HG
    have HO := Lib.hid own0
    clear h1 h own0
    go_enter Try.func30, Try.ntmps30
    go_wp2_with (go_at_call 56; refine HG.out.mono ?_; rintro e w1 ⟨rfl, hb1⟩)
    go_ret2
    have h5 := HO.out.below hb1
    exact ⟨_, rfl, h5.1, h5.2⟩
  | true =>
  have HPL := Lib.hid (fun W (hW : Below w.heap.size w W) => l18Places_any xs v W (h.below hW) h1)
  have HF := Lib.hid (rkF_yes h1)
  have HL := Lib.hid (goodR_len (goodR_iff.1 h1))
  rw [HF.out]
  rw [h1] at HG
  obtain ⟨P, hP⟩ : ∃ P, P = allF (xs.map Ht.k) := ⟨_, rfl⟩
  rw [← hP] at HPL HL ⊢
  have HO := Lib.hid own0
  clear h1 h own0 hP HF
  go_enter Try.func30, Try.ntmps30
  go_wp2_with fail
  refine HG.out.mono ?_
  rintro e w1 ⟨rfl, hb1⟩
  have HO1 := Lib.hid (HO.out.below hb1)
  clear hb1 HG HO
  go_wp2_with fail
  refine (HPL.out _ HO1.out.2).mono ?_
  rintro e w2 ⟨r2, rfl, row2, hb2⟩
  have HB2 := Lib.hid (HO1.out.below hb2)
  have HSORT := Lib.hid (l18Sort_any P true _ w2 (Sl.of_flat row2) HL.out)
  clear row2 hb2 HPL HO1
  go_wp2_with fail
  refine HSORT.out.mono ?_
  rintro e w3 ⟨r3, rfl, row3, hb3⟩
  have row3 : Row w2.heap.size 80 3 w3 r3 ((putAll ltPTR P).map Fns.S) := row3
  have hml := putAll_len ltPTR P
  obtain ⟨M, hM⟩ : ∃ M, M = putAll ltPTR P := ⟨_, rfl⟩
  rw [← hM] at row3 hml
  have HMD := Lib.hid hM
  have HML := Lib.hid (show M.length ≤ 24 by have := HL.out; omega)
  have HO3 := Lib.hid (HB2.out.below hb3)
  have HNE3 := Lib.hid (show Dis r3 (.slice (some ⟨w.heap.size, 0, none⟩) 0 0) from (Dis.new (n := w2.heap.size) (fun q hq => (HB2.out.1.lt q hq).2) (fun q hq => (row3.lt q hq).1)).symm)
  obtain ⟨A3, c3, rfl, hc3, hm3⟩ := row3.parts
  simp only [List.length_map] at row3 hc3 HNE3 ⊢
  have HR3 := Lib.hid (row3.mono HB2.out.2.size)
  clear hM hml row3 hb3 HB2 HSORT
  go_wp2
  go_loopw [4, 6] (fun o i wr => ∃ k : Nat, k ≤ M.length ∧ i = .int .i64 k ∧ Own w 3 1 wr o (((M.take k).map Fns.runner).map ints) ∧ Row w.heap.size 80 3 wr (.slice A3 M.length c3) (M.map Fns.S) ∧ Hid (Dis (.slice A3 M.length c3) o))
    (fun _ i _ => M.length - (intOf i).toNat)
  case atStart => exact ⟨0, Nat.zero_le _, rfl, HO3.out, HR3.out, HNE3.out⟩
  case round =>
    clear HO3 HR3 HNE3
    obtain ⟨k, hkl, rfl, own, hrow, HNE⟩ := hrel
    by_cases hlt : k < M.length
    · have HS := Lib.hid (show ((M.take (k + 1)).map Fns.runner).map ints = ((M.take k).map Fns.runner).map ints ++ [ints M[k].runner] by rw [List.take_succ_eq_append_getElem hlt, List.map_append, List.map_append]; rfl)
      have HLL := Lib.hid (show (((M.take k).map Fns.runner).map ints).length + 1 ≤ 2147483648 by simp; have := HML.out; omega)
      obtain ⟨pl, hpl⟩ : ∃ pl, pl = ((M.take k).map Fns.runner).map ints := ⟨_, rfl⟩
      rw [← hpl] at own HS HLL
      obtain ⟨g, cap, he, hbg, hg, hcap⟩ := hrow.form (by rw [List.length_map]; omega)
      simp only [Value.slice.injEq] at he
      obtain ⟨rfl, hq, rfl⟩ := he
      clear hq hcap hbg
      have hr1 := hrow.range (k := k) (by rw [List.length_map]; exact hlt)
      rw [List.getElem_map] at hr1
      have hcr := (Fns.cellsS hr1).2.2
      have HGT := Lib.hid hg
      have HO1 := Lib.hid (own.alloc (.cells #[.int .i64 M[k].runner] 3))
      have HSR := Lib.hid (show Src (wr.alloc (.cells #[.int .i64 M[k].runner] 3)) 1 (some ⟨wr.heap.size, 0, none⟩) 1 [ints M[k].runner] from Src.lit wr 3 (ints M[k].runner) wr.heap.size rfl rfl (ints_one _))
      have HRA := Lib.hid (hrow.alloc (.cells #[.int .i64 M[k].runner] 3))
      obtain ⟨x, hx⟩ : ∃ x, x = M[k].runner := ⟨_, rfl⟩
      rw [← hx] at hcr HO1 HSR HRA HS
      clear hpl hx own hrow hg hr1
      go_wp2_with (at_builtin; refine tyInt.append rfl _ _ rfl w.heap.size _ _ rfl HO1.out.1 _ 1 1 [ints x] rfl HSR.out HLL.out HO1.out.2.size ?_; intro o5 w5 hrow5 hg5 hat5)
      have HB5 := Lib.hid (HO1.out.2.grown hg5 HO1.out.2.size (fun q hq => (HO1.out.1.lt q hq).1))
      have HR5 := Lib.hid (HRA.out.kept hg5 HNE.out.or)
      have HN5 := Lib.hid (HNE.out.grown hat5 (fun q hq => by have := HGT.out; simp [Value.ownBlock] at hq; simp; omega))
      go_roundw
      case rel => exact ⟨k + 1, by omega, by go_num, by rw [HS.out]; exact ⟨hrow5, HB5.out⟩, HR5.out, HN5.out⟩
      case measure => simp [intOf]; omega
    · go_wp2
      go_ret2
      obtain rfl : k = M.length := by omega
      rw [List.take_length] at own
      exact ⟨_, rfl, by rw [← HMD.out]; exact own.1, own.2⟩

set_option maxRecDepth 100000 in
set_option maxHeartbeats 8000000 in
theorem spec_GoingOn (xs : List Ht) (ks : List HK) (v : Value) (d l : Int) (w : World) (hks : xs.map Ht.k = ks) (h : HtS w v xs) (hl : xs.length ≤ 1048577) (_ : I64 d) (_ : I64 l) :
    Calls Try.prog 32 #[v, .int .i64 d, .int .i64 l] w fun e w' => ∃ r1 r2, e = .returned (.tuple #[r1, r2, .bool (askG ks d l)]) ∧
      Row w.heap.size 3 1 w' r1 ((goF ks d l).map ints) ∧ Row w.heap.size 3 1 w' r2 ((goL ks d l).map ints) ∧ Dis r1 r2 ∧ Below w.heap.size w w' := by
  subst hks
  have own1 : Own w 3 1 ((w.alloc (.cells #[] 3)).alloc (.cells #[] 3)) (.slice (some ⟨w.heap.size, 0, none⟩) 0 0) [] := (Own.nil (Below.refl _ _) _ rfl).alloc _
  have own2 : Own w 3 1 ((w.alloc (.cells #[] 3)).alloc (.cells #[] 3)) (.slice (some ⟨w.heap.size + 1, 0, none⟩) 0 0) [] := Own.nil (below_alloc (Below.refl _ _) _) _ (by simp)
  have HD := Lib.hid (show Dis (.slice (some ⟨w.heap.size, 0, none⟩) 0 0) (.slice (some ⟨w.heap.size + 1, 0, none⟩) 0 0) from fun q e1 e2 => by simp [Value.ownBlock] at e1 e2; omega)
  have HA := Lib.hid (l18Asked_any xs v d l _ (h.below own1.2) hl)
  unfold goF goL
  cases ha : askG (xs.map Ht.k) d l with
  | false =>
    have HF := Lib.hid (gF_no ha)
    have HL := Lib.hid (gL_no ha)
    rw [HF.out, HL.out]
    rw [ha] at HA
    have HO1 := Lib.hid own1
    have HO2 := Lib.hid own2
    clear ha h own1 own2
    go_enter Try.func32, Try.ntmps32
    go_wp2_with (go_at_call 60; refine HA.out.mono ?_; rintro e w1 ⟨rfl, hb1⟩)
    go_ret3
    have h5 := HO1.out.below hb1
    have h6 := HO2.out.below hb1
    exact ⟨_, _, rfl, h5.1, h6.1, HD.out, h5.2⟩
  | true =>
    obtain ⟨hg, _, hl0, _⟩ := askG_parts ha
    obtain ⟨ln, rfl⟩ : ∃ n : Nat, l = (n : Int) := ⟨l.toNat, by omega⟩
    have HPL := Lib.hid (fun W (hW : Below w.heap.size w W) => l18Places_any xs v W (h.below hW) hg)
    have HLU := Lib.hid (fun W (hW : Below w.heap.size w W) => l18Lucky_any xs v d ln W (h.below hW) hg)
    have HL6 := Lib.hid (gL_len (xs.map Ht.k) d (ln : Int))
    have HP24 := Lib.hid (goodR_len (goodR_iff.1 hg))
    have HF := Lib.hid (gF_yes ha)
    rw [← gL_yes ha] at HLU
    rw [HF.out]
    unfold firstN
    rw [ha] at HA
    obtain ⟨P, hP⟩ : ∃ P, P = allF (xs.map Ht.k) := ⟨_, rfl⟩
    rw [← hP] at HPL HP24 ⊢
    obtain ⟨N, hN⟩ : ∃ N, N = gL (xs.map Ht.k) d (ln : Int) := ⟨_, rfl⟩
    rw [← hN] at HLU HL6 ⊢
    have HO1 := Lib.hid own1
    have HO2 := Lib.hid own2
    clear h ha hg hl0 own1 own2 HF hP hN
    go_enter Try.func32, Try.ntmps32
    go_wp2_with fail
    refine HA.out.mono ?_
    rintro e w1 ⟨rfl, hb1⟩
    have HO1 := Lib.hid (HO1.out.below hb1)
    have HO2 := Lib.hid (HO2.out.below hb1)
    clear hb1 HA
    go_wp2_with fail
    refine (HPL.out _ HO1.out.2).mono ?_
    rintro e w2 ⟨r2, rfl, row2, hb2⟩
    have HP1 := Lib.hid (HO1.out.below hb2)
    have HP2 := Lib.hid (HO2.out.below hb2)
    have HE1 := Lib.hid (show Dis r2 (.slice (some ⟨w.heap.size, 0, none⟩) 0 0) from (Dis.new (n := w1.heap.size) (fun q hq => (HO1.out.1.lt q hq).2) (fun q hq => (row2.lt q hq).1)).symm)
    have HE2 := Lib.hid (show Dis r2 (.slice (some ⟨w.heap.size + 1, 0, none⟩) 0 0) from (Dis.new (n := w1.heap.size) (fun q hq => (HO2.out.1.lt q hq).2) (fun q hq => (row2.lt q hq).1)).symm)
    have HROW2 := Lib.hid row2
    clear hb2 HPL row2
    go_wp2_with fail
    refine (HLU.out _ HP1.out.2).mono ?_
    rintro e w3 ⟨r3, rfl, row3, hb3⟩
    have HQ1 := Lib.hid (HP1.out.below hb3)
    have HQ2 := Lib.hid (HP2.out.below hb3)
    have HT1 := Lib.hid (show Dis r3 (.slice (some ⟨w.heap.size, 0, none⟩) 0 0) from (Dis.new (n := w2.heap.size) (fun q hq => (HP1.out.1.lt q hq).2) (fun q hq => (row3.lt q hq).1)).symm)
    have HT2 := Lib.hid (show Dis r3 (.slice (some ⟨w.heap.size + 1, 0, none⟩) 0 0) from (Dis.new (n := w2.heap.size) (fun q hq => (HP2.out.1.lt q hq).2) (fun q hq => (row3.lt q hq).1)).symm)
    have HRA2 := Lib.hid ((HROW2.out.below hb3).mono HO1.out.2.size)
    have HRA3 := Lib.hid (row3.mono HP1.out.2.size)
    obtain ⟨A2, c2, rfl, hc2, hm2⟩ := HRA2.out.parts
    obtain ⟨A3, c3, rfl, hc3, hm3⟩ := HRA3.out.parts
    simp only [List.length_map] at hc2 hc3 HRA2 HRA3 HE1 HE2 HT1 HT2 ⊢
    clear hb3 row3 HLU HO1 HO2 HP1 HP2 HROW2
    go_wp2
    go_loopw [9, 13] (fun o i wr => ∃ k : Nat, k ≤ P.length ∧ i = .int .i64 k ∧ Own w 3 1 wr o ((((P.take k).filter fun f => decide (f.place < d)).map Fns.runner).map ints) ∧ Row w.heap.size 80 3 wr (.slice A2 P.length c2) (P.map Fns.S) ∧ Hid (Dis (.slice A2 P.length c2) o) ∧ Own w 3 1 wr (.slice (some ⟨w.heap.size + 1, 0, none⟩) 0 0) [] ∧ Hid (Dis (.slice (some ⟨w.heap.size + 1, 0, none⟩) 0 0) o) ∧ Row w.heap.size 80 3 wr (.slice A3 N.length c3) (N.map Fns.S) ∧ Hid (Dis (.slice A3 N.length c3) o))
      (fun _ i _ => P.length - (intOf i).toNat)
    case atStart => exact ⟨0, Nat.zero_le _, rfl, HQ1.out, HRA2.out, HE1.out, HQ2.out, HD.out.symm, HRA3.out, HT1.out⟩
    case round =>
      clear HQ1 HRA2 HE1 HQ2 HD HRA3 HT1
      obtain ⟨k, hkl, rfl, own, hrow, HNE, own2, HD, hrow3, HNE3⟩ := hrel
      by_cases hlt : k < P.length
      · have HST := Lib.hid (first_take (d := d) hlt)
        have HLL := Lib.hid (show ((((P.take k).filter fun f => decide (f.place < d)).map Fns.runner).map ints).length + 1 ≤ 2147483648 by
          rw [List.length_map, List.length_map]
          have h1 := List.length_filter_le (fun f : Fns => decide (f.place < d)) (P.take k)
          have h2 := HP24.out
          rw [List.length_take] at h1
          omega)
        obtain ⟨cur, hcur⟩ : ∃ cur, cur = (P.take k).filter fun f => decide (f.place < d) := ⟨_, rfl⟩
        rw [← hcur] at own HLL HST
        obtain ⟨g, cap, he, hbg, hg, hcap⟩ := hrow.form (by rw [List.length_map]; omega)
        simp only [Value.slice.injEq] at he
        obtain ⟨rfl, hq, rfl⟩ := he
        clear hq hcap hbg
        have hr1 := hrow.range (k := k) (by rw [List.length_map]; exact hlt)
        rw [List.getElem_map] at hr1
        have hcr := (Fns.cellsS hr1).2.2
        have HGT := Lib.hid hg
        have HO1 := Lib.hid (own.alloc (.cells #[.int .i64 P[k].runner] 3))
        have HSR := Lib.hid (show Src (wr.alloc (.cells #[.int .i64 P[k].runner] 3)) 1 (some ⟨wr.heap.size, 0, none⟩) 1 [ints P[k].runner] from Src.lit wr 3 (ints P[k].runner) wr.heap.size rfl rfl (ints_one _))
        have HRA := Lib.hid (hrow.alloc (.cells #[.int .i64 P[k].runner] 3))
        have hcp := (Fns.cellsS hr1).1
        obtain ⟨x, hx⟩ : ∃ x, x = P[k].runner := ⟨_, rfl⟩
        obtain ⟨xp, hxp⟩ : ∃ x, x = P[k].place := ⟨_, rfl⟩
        rw [← hxp] at hcp HST
        have HPR := Lib.hid hx
        rw [← hx] at hcr HO1 HSR HRA
        have HA2 := Lib.hid (own2.alloc (.cells #[.int .i64 x] 3))
        have HA3 := Lib.hid (hrow3.alloc (.cells #[.int .i64 x] 3))
        have HL2 := Lib.hid (show ∀ q, (Value.slice (some ⟨w.heap.size + 1, 0, none⟩) 0 0).ownBlock = some q → q < wr.heap.size from fun q hq => (own2.1.lt q hq).2)
        have HL3 := Lib.hid (show ∀ q, (Value.slice A3 N.length c3).ownBlock = some q → q < wr.heap.size from fun q hq => (hrow3.lt q hq).2)
        clear hcur hx hxp hg hr1
        by_cases hp : xp < d
        · have HSS := Lib.hid (show (((P.take (k + 1)).filter (fun f => decide (f.place < d))).map Fns.runner).map ints = (cur.map Fns.runner).map ints ++ [ints x] by rw [HST.out, if_pos hp, List.map_append, List.map_append, HPR.out]; rfl)
          clear own hrow own2 hrow3
          go_wp2_with (at_builtin; refine tyInt.append rfl _ _ rfl w.heap.size _ _ rfl HO1.out.1 _ 1 1 [ints x] rfl HSR.out HLL.out HO1.out.2.size ?_; intro o5 w5 hrow5 hg5 hat5)
          have HB5 := Lib.hid (HO1.out.2.grown hg5 HO1.out.2.size (fun q hq => (HO1.out.1.lt q hq).1))
          have HR5 := Lib.hid (HRA.out.kept hg5 HNE.out.or)
          have HN5 := Lib.hid (HNE.out.grown hat5 (fun q hq => by have := HGT.out; simp [Value.ownBlock] at hq; simp; omega))
          have HO25 := Lib.hid (show Own w 3 1 w5 (.slice (some ⟨w.heap.size + 1, 0, none⟩) 0 0) [] from ⟨HA2.out.1.kept hg5 HD.out.or, HB5.out⟩)
          have HD5 := Lib.hid (HD.out.grown hat5 (fun q hq => by have := HL2.out q hq; simp; omega))
          have HR35 := Lib.hid (HA3.out.kept hg5 HNE3.out.or)
          have HN35 := Lib.hid (HNE3.out.grown hat5 (fun q hq => by have := HL3.out q hq; simp; omega))
          go_roundw
          case rel => exact ⟨k + 1, by omega, by go_num, by rw [HSS.out]; exact ⟨hrow5, HB5.out⟩, HR5.out, HN5.out, HO25.out, HD5.out, HR35.out, HN35.out⟩
          case measure => simp [intOf]; omega
        · have HSS := Lib.hid (show (P.take (k + 1)).filter (fun f => decide (f.place < d)) = cur by rw [HST.out, if_neg hp, List.append_nil])
          go_wp2
          go_roundw
          case rel => exact ⟨k + 1, by omega, by go_num, by rw [HSS.out]; exact own, hrow, HNE.out, own2, HD.out, hrow3, HNE3.out⟩
          case measure => simp [intOf]; omega
      · obtain rfl : k = P.length := by omega
        rw [List.take_length] at own
        have HOF := Lib.hid own
        have HO2 := Lib.hid own2
        have HRN := Lib.hid hrow3
        obtain ⟨o1, ho1⟩ : ∃ o1 : Value, o1 = u9 := ⟨_, rfl⟩
        rw [← ho1] at HOF HD HNE3
        have HU := Lib.hid ho1
        rw [← ho1]
        clear own hrow HNE own2 hrow3 ho1
        go_wp2
        go_loopw [10, 14] (fun o i wr => ∃ k : Nat, k ≤ N.length ∧ i = .int .i64 k ∧ Own w 3 1 wr o (((N.take k).map Fns.runner).map ints) ∧ Row w.heap.size 80 3 wr (.slice A3 N.length c3) (N.map Fns.S) ∧ Hid (Dis (.slice A3 N.length c3) o) ∧ Own w 3 1 wr o1 (((P.filter fun f => decide (f.place < d)).map Fns.runner).map ints) ∧ Hid (Dis o1 o))
          (fun _ i _ => N.length - (intOf i).toNat)
        case atStart => exact ⟨0, Nat.zero_le _, rfl, HO2.out, HRN.out, HT2.out, HOF.out, HD.out.symm⟩
        case round =>
          clear HO2 HRN HOF HD HT2 HNE3
          obtain ⟨k, hkl, rfl, own, hrow, HNE, ownF, HD⟩ := hrel
          by_cases hlt : k < N.length
          · have HS := Lib.hid (show ((N.take (k + 1)).map Fns.runner).map ints = ((N.take k).map Fns.runner).map ints ++ [ints N[k].runner] by rw [List.take_succ_eq_append_getElem hlt, List.map_append, List.map_append]; rfl)
            have HLL := Lib.hid (show (((N.take k).map Fns.runner).map ints).length + 1 ≤ 2147483648 by simp; have := HL6.out; omega)
            obtain ⟨pl, hpl⟩ : ∃ pl, pl = ((N.take k).map Fns.runner).map ints := ⟨_, rfl⟩
            rw [← hpl] at own HS HLL
            obtain ⟨g, cap, he, hbg, hg, hcap⟩ := hrow.form (by rw [List.length_map]; omega)
            simp only [Value.slice.injEq] at he
            obtain ⟨rfl, hq, rfl⟩ := he
            clear hq hcap hbg
            have hr1 := hrow.range (k := k) (by rw [List.length_map]; exact hlt)
            rw [List.getElem_map] at hr1
            have hcr := (Fns.cellsS hr1).2.2
            have HGT := Lib.hid hg
            have HO1 := Lib.hid (own.alloc (.cells #[.int .i64 N[k].runner] 3))
            have HSR := Lib.hid (show Src (wr.alloc (.cells #[.int .i64 N[k].runner] 3)) 1 (some ⟨wr.heap.size, 0, none⟩) 1 [ints N[k].runner] from Src.lit wr 3 (ints N[k].runner) wr.heap.size rfl rfl (ints_one _))
            have HRA := Lib.hid (hrow.alloc (.cells #[.int .i64 N[k].runner] 3))
            obtain ⟨x, hx⟩ : ∃ x, x = N[k].runner := ⟨_, rfl⟩
            rw [← hx] at hcr HO1 HSR HRA HS
            have HA2 := Lib.hid (ownF.alloc (.cells #[.int .i64 x] 3))
            have HL2 := Lib.hid (show ∀ q, o1.ownBlock = some q → q < wr.heap.size from fun q hq => (ownF.1.lt q hq).2)
            clear hpl hx own hrow hg hr1 ownF
            go_wp2_with (at_builtin; refine tyInt.append rfl _ _ rfl w.heap.size _ _ rfl HO1.out.1 _ 1 1 [ints x] rfl HSR.out HLL.out HO1.out.2.size ?_; intro o5 w5 hrow5 hg5 hat5)
            have HB5 := Lib.hid (HO1.out.2.grown hg5 HO1.out.2.size (fun q hq => (HO1.out.1.lt q hq).1))
            have HR5 := Lib.hid (HRA.out.kept hg5 HNE.out.or)
            have HN5 := Lib.hid (HNE.out.grown hat5 (fun q hq => by have := HGT.out; simp [Value.ownBlock] at hq; simp; omega))
            have HO25 := Lib.hid (show Own w 3 1 w5 o1 (((P.filter fun f => decide (f.place < d)).map Fns.runner).map ints) from ⟨HA2.out.1.kept hg5 HD.out.or, HB5.out⟩)
            have HD5 := Lib.hid (HD.out.grown hat5 (fun q hq => by have := HL2.out q hq; simp; omega))
            go_roundw
            case rel => exact ⟨k + 1, by omega, by go_num, by rw [HS.out]; exact ⟨hrow5, HB5.out⟩, HR5.out, HN5.out, HO25.out, HD5.out⟩
            case measure => simp [intOf]; omega
          · go_wp2
            go_ret3
            obtain rfl : k = N.length := by omega
            rw [List.take_length] at own
            exact ⟨_, _, rfl, ownF.1, own.1, HD.out, own.2⟩
end Go.Proofs.Ytabgmbmaakglkaa
