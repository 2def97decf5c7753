/- The walk of the program's goingOn. No condition. -/
import Derived.Test.YtabgmbmaakglkaaHtG
import Derived.Test.YtabgmbmaakglkaaHtI
import Derived.Test.YtabgmbmaakglkaaHtN
import Derived.OwnWalk
namespace Go.Proofs.Ytabgmbmaakglkaa
open Go Go.RowKit

set_option maxRecDepth 100000 in
set_option maxHeartbeats 8000000 in
theorem goingOn_any (xs : List Ht) (v : Value) (d l : Int) (w : World) (h : HtS w v xs) (hl : xs.length ≤ 1048577) :
    Calls Try.prog 62 #[v, .int .i64 d, .int .i64 l] w fun e w' => ∃ r1 r2, e = .returned (.tuple #[r1, r2, .bool (askG (xs.map Ht.k) d l)]) ∧
      Row w.heap.size 82 3 w' r1 ((gF (xs.map Ht.k) d l).map Fns.I) ∧ Row w.heap.size 82 3 w' r2 ((gL (xs.map Ht.k) d l).map Fns.I) ∧ Below w.heap.size w w' := by
  have HG := Lib.hid (IsRound_any xs v w h hl)
  cases h1 : goodR (xs.map Ht.k) with
  | false =>
    have ha : askG (xs.map Ht.k) d l = false := by simp [askG, h1]
    have HF := Lib.hid (gF_no ha)
    have HL := Lib.hid (gL_no ha)
    rw [ha, HF.out, HL.out]
    rw [h1] at HG
    clear h1 h ha
    go_enter Try.func62, Try.ntmps62
    go_wp2_with (go_at_call 49; refine HG.out.mono ?_; rintro e w' ⟨rfl, hb⟩)
    go_ret3
    exact ⟨_, _, rfl, Row.nil _ _ _ _, Row.nil _ _ _ _, hb⟩
  | true =>
  cases h2 : inB d 1 3 with
  | false =>
    have ha : askG (xs.map Ht.k) d l = false := by simp [askG, h2]
    have HF := Lib.hid (gF_no ha)
    have HL := Lib.hid (gL_no ha)
    rw [ha, HF.out, HL.out]
    rw [h1] at HG
    clear h1 h ha
    go_enter Try.func62, Try.ntmps62
    go_wp2_with (first
      | (go_at_call 49; refine HG.out.mono ?_; rintro e w' ⟨rfl, hb⟩)
      | (go_at_call 59; refine (inside_any _ _ _ _).mono ?_; rintro e w'' ⟨rfl, rfl⟩))
    go_ret3
    exact ⟨_, _, rfl, Row.nil _ _ _ _, Row.nil _ _ _ _, hb⟩
  | true =>
  cases h3 : inB l 0 6 with
  | false =>
    have ha : askG (xs.map Ht.k) d l = false := by simp [askG, h3]
    have HF := Lib.hid (gF_no ha)
    have HL := Lib.hid (gL_no ha)
    rw [ha, HF.out, HL.out]
    rw [h1] at HG
    clear h1 h ha
    go_enter Try.func62, Try.ntmps62
    go_wp2_with (first
      | (go_at_call 49; refine HG.out.mono ?_; rintro e w' ⟨rfl, hb⟩)
      | (go_at_call 59; refine (inside_any _ _ _ _).mono ?_; rintro e w'' ⟨rfl, rfl⟩))
    go_ret3
    exact ⟨_, _, rfl, Row.nil _ _ _ _, Row.nil _ _ _ _, hb⟩
  | true =>
  have ha : askG (xs.map Ht.k) d l = true := by simp [askG, h1, h2, h3]
  have HF := Lib.hid (gF_yes ha)
  have HL := Lib.hid (gL_yes ha)
  rw [ha, HF.out, HL.out]
  rw [h1] at HG
  have hgr := goodR_iff.1 h1
  have HSR := Lib.hid (fun (y : List Fns) hp hs => sort_rest hgr.2.1 d (l := y) hp hs)
  have HGK := Lib.hid (show ∀ p ∈ xs, goodH p.k = true from fun p hp => goodH_true (hgr.1 _ (List.mem_map.2 ⟨p, hp, rfl⟩)))
  have HAL := Lib.hid (show ∀ k, k ≤ (xs.map Ht.k).length → (allF ((xs.map Ht.k).take k)).length ≤ 24 from fun k hk => allF_le h1 hk)
  obtain ⟨ln, rfl⟩ : ∃ n : Nat, l = (n : Int) := ⟨l.toNat, by have := inB_iff.1 h3; omega⟩
  have HI := Lib.hid h.2
  obtain ⟨A, c, rfl, hc, hm, hk⟩ := h.1.open_
  clear h ha HF HL hgr h1
  go_enter Try.func62, Try.ntmps62
  go_wp2_with fail
  refine HG.out.mono ?_
  rintro e w1 ⟨rfl, hb1⟩
  go_wp2_with fail
  refine (inside_any _ _ _ _).mono ?_
  rintro e w'' ⟨rfl, rfl⟩
  go_wp2_with fail
  refine (inside_any _ _ _ _).mono ?_
  rintro e w'' ⟨rfl, rfl⟩
  have HO1 := Lib.hid (show Own w 82 3 ((w1.alloc (.cells #[] 82)).alloc (.cells #[] 82)) (.slice (some ⟨w1.heap.size, 0, none⟩) 0 0) [] from (Own.nil hb1 _ rfl).alloc _)
  have HO2 := Lib.hid (show Own w 82 3 ((w1.alloc (.cells #[] 82)).alloc (.cells #[] 82)) (.slice (some ⟨w1.heap.size + 1, 0, none⟩) 0 0) [] from Own.nil (below_alloc hb1 _) _ (by simp))
  have HD := Lib.hid (show Dis (.slice (some ⟨w1.heap.size, 0, none⟩) 0 0) (.slice (some ⟨w1.heap.size + 1, 0, none⟩) 0 0) from fun q e1 e2 => by simp [Value.ownBlock] at e1 e2; omega)
  clear hb1 HG
  go_wp2
  go_loopw [9, 10, 32] (fun o1 o2 i wr => ∃ k : Nat, k ≤ xs.length ∧ i = .int .i64 k ∧ Own w 82 3 wr o1 (((allF ((xs.map Ht.k).take k)).filter fun f => decide (f.place < d)).map Fns.I) ∧ Own w 82 3 wr o2 (((allF ((xs.map Ht.k).take k)).filter fun f => !decide (f.place < d)).map Fns.I) ∧ Hid (Dis o1 o2))
    (fun _ _ i _ => xs.length - (intOf i).toNat)
  case atStart => exact ⟨0, Nat.zero_le _, rfl, HO1.out, HO2.out, HD.out⟩
  case round =>
    clear HO1 HO2 HD
    obtain ⟨k, hkl, rfl, own1, own2, HD⟩ := hrel
    by_cases hlt : k < xs.length
    · obtain ⟨b, off, rfl, hat⟩ := flat_at hk (by omega)
      have hr0 := rangeAt_below (hat k hlt) own1.b
      have hin := HI.out _ (List.getElem_mem hlt)
      have HGP := Lib.hid (HGK.out _ (List.getElem_mem hlt))
      have HLK := Lib.hid (HAL.out k (by rw [List.length_map]; omega))
      have HLN := Lib.hid (HAL.out (k + 1) (by rw [List.length_map]; omega))
      have HS := Lib.hid (show allF ((xs.map Ht.k).take (k + 1)) = allF ((xs.map Ht.k).take k) ++ finN xs[k].k by rw [allF_take (by rw [List.length_map]; exact hlt)]; simp)
      obtain ⟨p, hp⟩ : ∃ p, p = xs[k] := ⟨_, rfl⟩
      rw [← hp] at hr0 hin HGP HS
      obtain ⟨pre, hpre⟩ : ∃ pre, pre = allF ((xs.map Ht.k).take k) := ⟨_, rfl⟩
      rw [HS.out] at HLN
      rw [← hpre] at own1 own2 HS HLK HLN
      obtain ⟨F, hF⟩ : ∃ F, F = finN p.k := ⟨_, rfl⟩
      have hW := below_alloc (Below.refl wr.heap.size wr) (.cells #[.slice p.a p.n p.c, .slice p.b p.m p.d] 28)
      have HFIN := Lib.hid (finishers_any p _ (hin.below (step_ own1.b (Nat.le_refl _) hW)) HGP.out)
      rw [← hF] at HFIN HS HLN
      have HW := Lib.hid hW
      clear hp hpre hF hat hk hin hW
      go_wp2_with ((with_reducible refine at_load_ 28 ?_); refine Ht.loadImpl rfl _ rfl b (off + k * 2) rfl p hr0 ?_)
      refine HFIN.out.mono ?_
      rintro e w2 ⟨o, rfl, row2, hb2⟩
      have hB2 := step_ HW.out (Nat.le_refl _) hb2
      obtain ⟨A2, c2, rfl, hc2, hm2⟩ := row2.parts
      simp only [List.length_map] at row2 hc2 ⊢
      have HO1 := Lib.hid (show Own w 82 3 w2 _ (((pre ++ F.take 0).filter fun f => decide (f.place < d)).map Fns.I) from by simpa using own1.below hB2)
      have HO2 := Lib.hid (show Own w 82 3 w2 _ (((pre ++ F.take 0).filter fun f => !decide (f.place < d)).map Fns.I) from by simpa using own2.below hB2)
      have HR2 := Lib.hid (row2.mono HW.out.size)
      have HD1 := Lib.hid (Dis.symm (Dis.new (n := wr.heap.size) (fun q hq => (own1.1.lt q hq).2) (fun q hq => (HR2.out.lt q hq).1)))
      have HD2 := Lib.hid (Dis.symm (Dis.new (n := wr.heap.size) (fun q hq => (own2.1.lt q hq).2) (fun q hq => (HR2.out.lt q hq).1)))
      obtain ⟨wo, rfl⟩ : ∃ wo : World, wo = wr := ⟨_, rfl⟩
      clear row2 hb2 own1 own2 hr0 hB2 HFIN HW
      go_wp2
      go_loopw [9, 10, 39] (fun o1 o2 i wi => ∃ j : Nat, j ≤ F.length ∧ i = .int .i64 j ∧ Own w 82 3 wi o1 (((pre ++ F.take j).filter fun f => decide (f.place < d)).map Fns.I) ∧ Own w 82 3 wi o2 (((pre ++ F.take j).filter fun f => !decide (f.place < d)).map Fns.I) ∧ Row wo.heap.size 82 3 wi (.slice A2 F.length c2) (F.map Fns.I) ∧ Hid (Dis o1 o2) ∧ Hid (Dis (.slice A2 F.length c2) o1) ∧ Hid (Dis (.slice A2 F.length c2) o2))
        (fun _ _ i _ => F.length - (intOf i).toNat)
      case atStart => exact ⟨0, Nat.zero_le _, rfl, HO1.out, HO2.out, HR2.out, HD.out, HD1.out, HD2.out⟩
      case round =>
        clear HO1 HO2 HR2 HD HD1 HD2
        obtain ⟨j, hjl, rfl, own1, own2, hrow, HD, HD1, HD2⟩ := hrel
        by_cases hjt : j < F.length
        · obtain ⟨g, cap, he, hbg, hg, hcap⟩ := hrow.form (by rw [List.length_map]; omega)
          simp only [Value.slice.injEq] at he
          obtain ⟨rfl, hq, rfl⟩ := he
          clear hq hcap hbg hg
          have hr1 := hrow.range (k := j) (by rw [List.length_map]; exact hjt)
          rw [List.getElem_map] at hr1
          have HF1 := Lib.hid (show (pre ++ F.take (j + 1)).filter (fun f => decide (f.place < d)) = (pre ++ F.take j).filter (fun f => decide (f.place < d)) ++ (if F[j].place < d then [F[j]] else []) by
            rw [List.filter_append, first_take hjt, ← List.append_assoc, ← List.filter_append])
          have HF2 := Lib.hid (show (pre ++ F.take (j + 1)).filter (fun f => !decide (f.place < d)) = (pre ++ F.take j).filter (fun f => !decide (f.place < d)) ++ (if F[j].place < d then [] else [F[j]]) by
            rw [List.filter_append, rest_take hjt, ← List.append_assoc, ← List.filter_append])
          have HLL := Lib.hid (show (pre ++ F.take j).length ≤ 24 by rw [List.length_append, List.length_take]; have := HLN.out; rw [List.length_append] at this; omega)
          have HL1 := Lib.hid (show (((pre ++ F.take j).filter fun f => decide (f.place < d)).map Fns.I).length + 1 ≤ 2147483648 by
            rw [List.length_map]; have h1 := List.length_filter_le (fun f : Fns => decide (f.place < d)) (pre ++ F.take j); have := HLL.out; omega)
          have HL2 := Lib.hid (show (((pre ++ F.take j).filter fun f => !decide (f.place < d)).map Fns.I).length + 1 ≤ 2147483648 by
            rw [List.length_map]; have h1 := List.length_filter_le (fun f : Fns => !decide (f.place < d)) (pre ++ F.take j); have := HLL.out; omega)
          obtain ⟨cu1, hcu1⟩ : ∃ cu, cu = (pre ++ F.take j).filter fun f => decide (f.place < d) := ⟨_, rfl⟩
          obtain ⟨cu2, hcu2⟩ : ∃ cu, cu = (pre ++ F.take j).filter fun f => !decide (f.place < d) := ⟨_, rfl⟩
          rw [← hcu1] at own1 HF1 HL1
          rw [← hcu2] at own2 HF2 HL2
          obtain ⟨x, hx⟩ : ∃ x, x = F[j] := ⟨_, rfl⟩
          rw [← hx] at hr1 HF1 HF2
          clear hcu1 hcu2 hx
          obtain ⟨xp, xt, xr⟩ := x
          simp only at HF1 HF2
          have HA1 := Lib.hid ((own1.alloc (.cells #[.int .i64 xr, .int .i64 xt, .int .i64 xp] 82)).alloc (.cells #[.int .i64 xr, .int .i64 xt, .int .i64 xp] 82))
          have HA2 := Lib.hid ((own2.alloc (.cells #[.int .i64 xr, .int .i64 xt, .int .i64 xp] 82)).alloc (.cells #[.int .i64 xr, .int .i64 xt, .int .i64 xp] 82))
          have HAR := Lib.hid ((hrow.alloc (.cells #[.int .i64 xr, .int .i64 xt, .int .i64 xp] 82)).alloc (.cells #[.int .i64 xr, .int .i64 xt, .int .i64 xp] 82))
          have HSRC := Lib.hid (show Src ((wr.alloc (.cells #[.int .i64 xr, .int .i64 xt, .int .i64 xp] 82)).alloc (.cells #[.int .i64 xr, .int .i64 xt, .int .i64 xp] 82)) 3 (some ⟨wr.heap.size + 1, 0, none⟩) 1 [[.int .i64 xr, .int .i64 xt, .int .i64 xp]] from Src.lit (wr.alloc (.cells #[.int .i64 xr, .int .i64 xt, .int .i64 xp] 82)) 82 [.int .i64 xr, .int .i64 xt, .int .i64 xp] (wr.heap.size + 1) (by simp) rfl (by simp [Value.oneCell']))
          have HLR := Lib.hid (show ∀ q, (Value.slice (some ⟨g, 0, none⟩) F.length c2).ownBlock = some q → q < wr.heap.size + 1 + 1 from fun q hq => by have := (hrow.lt q hq).2; omega)
          have HLO1 := Lib.hid (show ∀ q, u9.ownBlock = some q → q < wr.heap.size + 1 + 1 from fun q hq => by have := (own1.1.lt q hq).2; omega)
          have HLO2 := Lib.hid (show ∀ q, u10.ownBlock = some q → q < wr.heap.size + 1 + 1 from fun q hq => by have := (own2.1.lt q hq).2; omega)
          have HSZ := Lib.hid (show ((wr.alloc (.cells #[.int .i64 xr, .int .i64 xt, .int .i64 xp] 82)).alloc (.cells #[.int .i64 xr, .int .i64 xt, .int .i64 xp] 82)).heap.size = wr.heap.size + 1 + 1 by simp)
          clear own1 own2 hrow
          by_cases hpd : xp < d
          · have HE1 := Lib.hid (show ((pre ++ F.take (j + 1)).filter fun f => decide (f.place < d)).map Fns.I = cu1.map Fns.I ++ [[.int .i64 xr, .int .i64 xt, .int .i64 xp]] by rw [HF1.out, if_pos hpd, List.map_append]; rfl)
            have HE2 := Lib.hid (show (pre ++ F.take (j + 1)).filter (fun f => !decide (f.place < d)) = cu2 by rw [HF2.out, if_pos hpd, List.append_nil])
            go_wp2_with (first
              | ((with_reducible refine at_load_ 82 ?_); refine Fns.loadI rfl _ rfl g (j * 3) rfl ⟨xp, xt, xr⟩ hr1 ?_)
              | (at_builtin; refine tyFin.append rfl _ _ rfl w.heap.size _ _ rfl HA1.out.1 _ 1 1 [[.int .i64 xr, .int .i64 xt, .int .i64 xp]] rfl HSRC.out HL1.out HA1.out.2.size ?_; intro o5 w5 hrow5 hg5 hat5))
            rw [HSZ.out] at hat5
            have HB5 := Lib.hid (HA1.out.2.grown hg5 HA1.out.2.size (fun q hq => (HA1.out.1.lt q hq).1))
            have HR5 := Lib.hid (HAR.out.kept hg5 HD1.out.or)
            have HO5 := Lib.hid (show Own w 82 3 w5 _ (cu2.map Fns.I) from ⟨HA2.out.1.kept hg5 HD.out.symm.or, HB5.out⟩)
            have HD5 := Lib.hid ((HD.out.symm.grown hat5 HLO2.out).symm)
            have HE5 := Lib.hid (HD1.out.grown hat5 HLR.out)
            go_roundw
            case rel => exact ⟨j + 1, by omega, by go_num, by rw [HE1.out]; exact ⟨hrow5, HB5.out⟩, by rw [HE2.out]; exact HO5.out, HR5.out, HD5.out, HE5.out, HD2.out⟩
            case measure => simp [intOf]; omega
          · have HE1 := Lib.hid (show (pre ++ F.take (j + 1)).filter (fun f => decide (f.place < d)) = cu1 by rw [HF1.out, if_neg hpd, List.append_nil])
            have HE2 := Lib.hid (show ((pre ++ F.take (j + 1)).filter (fun f => !decide (f.place < d))).map Fns.I = cu2.map Fns.I ++ [[.int .i64 xr, .int .i64 xt, .int .i64 xp]] by rw [HF2.out, if_neg hpd, List.map_append]; rfl)
            go_wp2_with (first
              | ((with_reducible refine at_load_ 82 ?_); refine Fns.loadI rfl _ rfl g (j * 3) rfl ⟨xp, xt, xr⟩ hr1 ?_)
              | (at_builtin; refine tyFin.append rfl _ _ rfl w.heap.size _ _ rfl HA2.out.1 _ 1 1 [[.int .i64 xr, .int .i64 xt, .int .i64 xp]] rfl HSRC.out HL2.out HA2.out.2.size ?_; intro o5 w5 hrow5 hg5 hat5))
            rw [HSZ.out] at hat5
            have HB5 := Lib.hid (HA2.out.2.grown hg5 HA2.out.2.size (fun q hq => (HA2.out.1.lt q hq).1))
            have HR5 := Lib.hid (HAR.out.kept hg5 HD2.out.or)
            have HO5 := Lib.hid (show Own w 82 3 w5 _ (cu1.map Fns.I) from ⟨HA1.out.1.kept hg5 HD.out.or, HB5.out⟩)
            have HD5 := Lib.hid (HD.out.grown hat5 HLO1.out)
            have HE5 := Lib.hid (HD2.out.grown hat5 HLR.out)
            go_roundw
            case rel => exact ⟨j + 1, by omega, by go_num, by rw [HE1.out]; exact HO5.out, by rw [HE2.out]; exact ⟨hrow5, HB5.out⟩, HR5.out, HD5.out, HD1.out, HE5.out⟩
            case measure => simp [intOf]; omega
        · go_wp2
          obtain rfl : j = F.length := by omega
          rw [List.take_length] at own1 own2
          go_roundw
          case rel => exact ⟨k + 1, by omega, by go_num, by rw [HS.out]; exact own1, by rw [HS.out]; exact own2, HD.out⟩
          case measure => simp [intOf]; omega
    · obtain rfl : k = xs.length := by omega
      have e : (xs.map Ht.k).take xs.length = xs.map Ht.k := List.take_of_length_le (by simp)
      rw [e] at own1 own2
      have own1 : Own w 82 3 wr _ ((firstN (xs.map Ht.k) d).map Fns.I) := own1
      have own2 : Own w 82 3 wr _ ((restN (xs.map Ht.k) d).map Fns.I) := own2
      have HRL := Lib.hid (show (restN (xs.map Ht.k) d).length ≤ 24 by
        have h1 := List.length_filter_le (fun f : Fns => !decide (f.place < d)) (allF (xs.map Ht.k))
        have h2 := HAL.out xs.length (by simp)
        rw [e] at h2
        unfold restN; omega)
      have HCALL := Lib.hid (sortFin_any cfTR swoTR 86 (enters_of Try.func86 (by kernel_rfl) rfl) (fun W x y => byTimeRunner_any x y W) w.heap.size _ _ wr own2.1 (by have := HRL.out; omega))
      have HO1 := Lib.hid own1
      have HO2 := Lib.hid own2
      clear own1 own2 e hk
      go_wp2_with fail
      refine HCALL.out.mono ?_
      rintro e w3 ⟨rfl, ys, hp, hs, row3, hg3⟩
      have HYS := Lib.hid (HSR.out ys hp (hs.imp fun h => by rw [← cfTR_lt]; exact h))
      have HB3 := Lib.hid (HO2.out.2.grown hg3 HO2.out.2.size (fun q hq => (HO2.out.1.lt q hq).1))
      have HR1 := Lib.hid (HO1.out.1.kept hg3 HD.out.or)
      have HLK := Lib.hid (show luckyN (xs.map Ht.k) d (ln : Int) = ys.take (min ln ys.length) by rw [HYS.out, putAll_len]; simp only [luckyN, Int.toNat_natCast])
      clear hp hs hg3 HCALL HO1 HO2 HYS HD
      obtain ⟨A3, c3, rfl, hc3, hm3⟩ := row3.parts
      simp only [List.length_map] at row3 hc3 ⊢
      obtain ⟨m, hmm⟩ : ∃ m, m = min ln ys.length := ⟨_, rfl⟩
      have hm0 : m ≤ ys.length := by omega
      have HROW := Lib.hid row3
      have hk0 : (0 : Int) ≤ (m : Int) := by omega
      have hk1 : (m : Int) ≤ (ys.length : Int) := by omega
      have hk2 : (m : Int) ≤ (c3 : Int) := by omega
      have HMM := Lib.hid hmm
      clear row3 hmm
      go_wp2
      refine region_after (by kernel_rfl) (by kernel_rfl) ?_
      repeat (any_goals (first | go_big_quiet_step (fail)  | quiet_step (fail) | (refine wpQuiet_step (fun K hK => ?_); go_simp; split <;> (refine hK _ ?_; clear hK K))))
      all_goals (refine wpQuiet_nil ?_; intro s)
      have HRA := Lib.hid (HR1.out.below s.hb)
      have HRB := Lib.hid (HROW.out.below s.hb)
      have HBS := Lib.hid (step_ HB3.out (Nat.le_refl _) s.hb)
      go_wp2
      go_ret3
      refine ⟨_, _, rfl, HRA.out, ?_, HBS.out⟩
      have e9 : (min (ln : Int) (ys.length : Int)).toNat = m := by have := HMM.out; omega
      rw [HLK.out, ← HMM.out, e9]
      rcases A3 with _ | A3
      · have h0 := HRB.out.2.2
        rcases h0 with ⟨h1, h2⟩ | ⟨g', cap', cur', h1, _⟩
        · rw [List.length_map] at h2
          simp only [Value.slice.injEq] at h1
          have : m = 0 := by omega
          subst this
          rw [h1.2.2, List.take_zero]
          exact Row.nil _ _ _ _
        · simp at h1
      · have h0 := HRB.out.2.2
        rcases h0 with ⟨h1, h2⟩ | ⟨g', cap', cur', h1, _⟩
        · simp at h1
        · simp only [Value.slice.injEq, Option.some.injEq] at h1
          obtain ⟨rfl, _, _⟩ := h1
          have := HRB.out.prefix_ (k := m) (by rw [List.length_map]; exact hm0)
          rwa [← List.map_take] at this
end Go.Proofs.Ytabgmbmaakglkaa
