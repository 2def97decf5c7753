/- The walk of the program's PhotoFinish. No condition. -/
import Derived.Test.YtabgmbmaakglkaaHtG
import Derived.Test.YtabgmbmaakglkaaHtC
import Derived.Test.YtabgmbmaakglkaaHtV
import Derived.Test.YtabgmbmaakglkaaIL
namespace Go.Proofs.Ytabgmbmaakglkaa
open Go Go.RowKit

set_option maxRecDepth 100000 in
set_option maxHeartbeats 8000000 in
theorem impl_PhotoFinish (xs : List Ht) (ks : List HK) (v : Value) (q : Int) (w : World) (hks : xs.map Ht.k = ks) (h : HtS w v xs) (hl : xs.length ≤ 1048577) (_ : I64 q) :
    Calls Try.prog 22 #[v, .int .i64 q] w fun e w' => ∃ r zs, e = .returned (.tuple #[r, .bool (askP ks q)]) ∧ zs.map IL.k = phV ks q ∧ ILR w.heap.size w' r zs ∧ Below w.heap.size w w' := by
  subst hks
  have HG := Lib.hid (IsRound_any xs v w h hl)
  cases h1 : goodR (xs.map Ht.k) with
  | false =>
    have ha : askP (xs.map Ht.k) q = false := by simp [askP, h1]
    have HV := Lib.hid (phV_no ha)
    rw [ha, HV.out]
    rw [h1] at HG
    clear h1 h ha
    go_enter Try.func22, Try.ntmps22
    go_wp2_with (go_at_call 49; refine HG.out.mono ?_; rintro e w1 ⟨rfl, hb1⟩)
    go_ret2
    exact ⟨_, [], rfl, rfl, ILR.nil _ _, hb1⟩
  | true =>
  cases h2 : inB q 1 60 with
  | false =>
    have ha : askP (xs.map Ht.k) q = false := by unfold askP; rw [h1, Bool.true_and]; exact h2
    have HV := Lib.hid (phV_no ha)
    rw [ha, HV.out]
    rw [h1] at HG
    clear h1 h ha
    go_enter Try.func22, Try.ntmps22
    go_wp2_with (first
      | (go_at_call 49; refine HG.out.mono ?_; rintro e w1 ⟨rfl, hb1⟩)
      | (go_at_call 59; refine (inside_any _ _ _ _).mono ?_; rintro e w'' ⟨rfl, rfl⟩))
    go_ret2
    exact ⟨_, [], rfl, rfl, ILR.nil _ _, hb1⟩
  | true =>
  have ha : askP (xs.map Ht.k) q = true := by simp only [askP, h1, Bool.true_and]; exact h2
  have HV := Lib.hid (phV_yes ha)
  have hgr := goodR_iff.1 h1
  have HGK := Lib.hid (show ∀ p ∈ xs, goodH p.k = true from fun p hp => goodH_true (hgr.1 _ (List.mem_map.2 ⟨p, hp, rfl⟩)))
  have HAL := Lib.hid (show ∀ k, k ≤ (xs.map Ht.k).length → (allF ((xs.map Ht.k).take k)).length ≤ 24 from fun k hk => by
    have h3 : GoodR (xs.map Ht.k) := hgr
    have h4 := goodR_len h3
    have hsp : allF (xs.map Ht.k) = allF ((xs.map Ht.k).take k) ++ allF ((xs.map Ht.k).drop k) := by
      conv => lhs; rw [← List.take_append_drop k (xs.map Ht.k)]
      unfold allF
      rw [List.flatMap_append]
    rw [hsp, List.length_append] at h4
    omega)
  have HNA := Lib.hid (show ∀ k (hk : k < (xs.map Ht.k).length) i (hi : i < (finN (xs.map Ht.k)[k]).length), nearAt q (allF (xs.map Ht.k)) ((allF ((xs.map Ht.k).take k)).length + i) = if 0 < i then nearAt q (finN (xs.map Ht.k)[k]) i else [] from fun k hk i hi => nearAt_all hk hi)
  rw [ha, HV.out]
  rw [h1] at HG
  have HI := Lib.hid h.2
  obtain ⟨A, c, rfl, hc, hm, hk⟩ := h.1.open_
  obtain ⟨G, hG⟩ : ∃ G, G = allF (xs.map Ht.k) := ⟨_, rfl⟩
  rw [← hG] at HNA ⊢
  have HGE := Lib.hid hG
  clear h ha HV hgr h1 hG
  go_enter Try.func22, Try.ntmps22
  go_wp2_with fail
  refine HG.out.mono ?_
  rintro e w1 ⟨rfl, hb1⟩
  go_wp2_with fail
  refine (inside_any _ _ _ _).mono ?_
  rintro e w'' ⟨rfl, rfl⟩
  have HR1 := Lib.hid (show ILR w.heap.size (w1.alloc (.cells #[] 22)) (.slice (some ⟨w1.heap.size, 0, none⟩) 0 0) [] from ILR.lit rfl hb1.size)
  have HB1 := Lib.hid (below_alloc hb1 (.cells #[] 22))
  clear hb1 HG
  go_wp2
  go_loopw [6, 22] (fun o i wr => ∃ (k : Nat) (zs : List IL), k ≤ xs.length ∧ i = .int .i64 k ∧ Hid (zs.map IL.k = nearN q G (allF ((xs.map Ht.k).take k)).length) ∧ ILR w.heap.size wr o zs ∧ Below w.heap.size w wr)
    (fun _ i _ => xs.length - (intOf i).toNat)
  case atStart => exact ⟨0, [], Nat.zero_le _, rfl, rfl, HR1.out, HB1.out⟩
  case round =>
    clear HR1 HB1
    obtain ⟨k, zs, hkl, rfl, HZ, hR, hb⟩ := hrel
    by_cases hlt : k < xs.length
    · obtain ⟨b, off, rfl, hat⟩ := flat_at hk (by omega)
      have hr0 := rangeAt_below (hat k hlt) hb
      have hin := HI.out _ (List.getElem_mem hlt)
      have HGP := Lib.hid (HGK.out _ (List.getElem_mem hlt))
      have HLN := Lib.hid (HAL.out (k + 1) (by rw [List.length_map]; omega))
      have HS := Lib.hid (show allF ((xs.map Ht.k).take (k + 1)) = allF ((xs.map Ht.k).take k) ++ finN xs[k].k by rw [allF_take (by rw [List.length_map]; exact hlt)]; simp)
      have HNK := Lib.hid (HNA.out k (by rw [List.length_map]; exact hlt))
      simp only [List.getElem_map] at HNK
      obtain ⟨p, hp⟩ : ∃ p, p = xs[k] := ⟨_, rfl⟩
      rw [← hp] at hr0 hin HGP HS
      simp only [← hp] at HNK
      obtain ⟨pre, hpre⟩ : ∃ pre, pre = allF ((xs.map Ht.k).take k) := ⟨_, rfl⟩
      rw [HS.out] at HLN
      rw [← hpre] at HS HLN HZ HNK
      have HTM := Lib.hid (fun f hf => finN_time (goodH_iff.1 HGP.out) (f := f) hf)
      obtain ⟨F, hF⟩ : ∃ F, F = finN p.k := ⟨_, rfl⟩
      have HPL := Lib.hid (show ∀ i (hi : i < F.length), F[i].place = (i : Int) from fun i hi => by subst hF; exact finN_place hi)
      have hW := below_alloc (Below.refl wr.heap.size wr) (.cells #[.slice p.a p.n p.c, .slice p.b p.m p.d] 28)
      have HFIN := Lib.hid (finishers_any p _ (hin.below (step_ hb (Nat.le_refl _) hW)) HGP.out)
      rw [← hF] at HFIN HS HLN HTM
      simp only [← hF] at HNK
      have HW := Lib.hid hW
      have HFL := Lib.hid (show pre.length + F.length ≤ 24 by have := HLN.out; rw [List.length_append] at this; exact this)
      have HST := Lib.hid (show (allF ((xs.map Ht.k).take (k + 1))).length = pre.length + F.length by rw [HS.out, List.length_append])
      obtain ⟨N, hN⟩ : ∃ N, N = pre.length := ⟨_, rfl⟩
      rw [← hN] at HFL HST HZ HNK
      clear hp hpre hF hat hk hin hW hN HLN HS
      go_wp2_with ((with_reducible refine at_load_ 28 ?_); refine Ht.loadImpl rfl _ rfl b (off + k * 2) rfl p hr0 ?_)
      refine HFIN.out.mono ?_
      rintro e w2 ⟨o, rfl, row2, hb2⟩
      have hB2 := step_ HW.out (Nat.le_refl _) hb2
      obtain ⟨A2, c2, rfl, hc2, hm2⟩ := row2.parts
      simp only [List.length_map] at row2 hc2 ⊢
      have HR2 := Lib.hid (hR.below hB2)
      have HROW := Lib.hid (row2.mono HW.out.size)
      have HD2 := Lib.hid (Dis.symm (Dis.new (n := wr.heap.size) (fun q hq => (hR.1.lt q hq).2) (fun q hq => (HROW.out.lt q hq).1)))
      have HB2 := Lib.hid (step_ hb (Nat.le_refl _) hB2)
      have HZ0 := Lib.hid (show zs.map IL.k = nearN q G (N + min 1 F.length) by
        rcases Nat.eq_zero_or_pos F.length with h0 | h0
        · rw [h0]; exact HZ.out
        · rw [Nat.min_eq_left h0, nearN_succ]
          have := HNK.out 0 h0
          rw [Nat.add_zero, if_neg (Nat.lt_irrefl 0)] at this
          rw [this, List.append_nil]
          exact HZ.out)
      obtain ⟨wo, rfl⟩ : ∃ wo : World, wo = wr := ⟨_, rfl⟩
      clear row2 hb2 hr0 hB2 HFIN HW hR hb HZ
      go_wp2
      go_loopw [6, 10] (fun o i wi => ∃ (j : Nat) (zs : List IL), 1 ≤ j ∧ j ≤ F.length + 1 ∧ i = .int .i64 j ∧ Hid (zs.map IL.k = nearN q G (N + min j F.length)) ∧ ILR w.heap.size wi o zs ∧ Row wo.heap.size 82 3 wi (.slice A2 F.length c2) (F.map Fns.I) ∧ Hid (Dis (.slice A2 F.length c2) o) ∧ Below w.heap.size w wi)
        (fun _ i _ => F.length + 1 - (intOf i).toNat)
      case atStart => exact ⟨1, zs, Nat.le_refl _, by omega, rfl, HZ0.out, HR2.out, HROW.out, HD2.out, HB2.out⟩
      case round =>
        clear HZ0 HR2 HROW HD2 HB2
        obtain ⟨j, zs, hj1, hjl, rfl, HZ, hR, hrow, HNE, hb⟩ := hrel
        by_cases hjt : j < F.length
        · obtain ⟨g, cap, he, hbg, hg, hcap⟩ := hrow.form (by rw [List.length_map]; omega)
          simp only [Value.slice.injEq] at he
          obtain ⟨rfl, hq, rfl⟩ := he
          clear hq hcap hbg
          obtain ⟨i, hi⟩ : ∃ i, j = i + 1 := ⟨j - 1, by omega⟩
          have hil : i < F.length := by omega
          have hr1 := hrow.range (k := j) (by rw [List.length_map]; exact hjt)
          have hr2 := hrow.range (k := i) (by rw [List.length_map]; exact hil)
          rw [List.getElem_map] at hr1 hr2
          have HNX := Lib.hid (show nearN q G (N + min (j + 1) F.length) = nearN q G (N + min j F.length) ++ nearAt q F j by
            rw [Nat.min_eq_left (show j + 1 ≤ F.length by omega), Nat.min_eq_left (show j ≤ F.length by omega), ← Nat.add_assoc, nearN_succ, HNK.out j hjt, if_pos (by omega)])
          have ht1 := HTM.out _ (List.getElem_mem hjt)
          have ht2 := HTM.out _ (List.getElem_mem hil)
          have hj1' : j - 1 < F.length := by omega
          have hej : F[j - 1] = F[i] := by congr 1; omega
          have hpl := HPL.out j hjt
          have HY := Lib.hid (fun hq => nearAt_yes (q := q) hjt hj1' (by rw [hpl]; omega) hq)
          have HX := Lib.hid (fun h0 => nearAt_no (q := q) hjt hj1' h0)
          rw [hej] at HY HX
          obtain ⟨x, hx⟩ : ∃ x, x = F[j] := ⟨_, rfl⟩
          obtain ⟨y, hy⟩ : ∃ y, y = F[i] := ⟨_, rfl⟩
          rw [← hx] at hr1 ht1 HY HX
          rw [← hy] at hr2 ht2 HY HX
          clear hx hy hej hpl
          obtain ⟨xp, xt, xr⟩ := x
          obtain ⟨yp, yt, yr⟩ := y
          simp only at ht1 ht2 HY HX
          have hwr : IntKind.i64.wrap ((j : Int) - 1) = (i : Int) := by rw [IntKind.wrap_i64]; omega
          have hwt : IntKind.i64.wrap (xt - yt) = xt - yt := by rw [IntKind.wrap_i64]; omega
          have hz1 : (0 : Int) ≤ (i : Int) := by omega
          have hz2 : (i : Int) < (F.length : Int) := by omega
          have hz3 : (0 : Int) ≤ (j : Int) := by omega
          have hz4 : (j : Int) < (F.length : Int) := by omega
          have hFl : 0 < F.length := by omega
          have hcx := Fns.cellsI hr1
          have hcy := Fns.cellsI hr2
          simp only at hcx hcy
          have hx1 := After.keep hcx.2.1
          have hy1 := After.keep hcy.2.1
          have HXR := Lib.hid hcx.1
          have HYR := Lib.hid hcy.1
          have HGT := Lib.hid hg
          have HRR := Lib.hid hR
          have HRO := Lib.hid hrow
          have HBB := Lib.hid hb
          clear hi hr1 hr2 ht1 ht2 hg hcx hcy hR hrow hb
          by_cases hd : xt - yt ≤ q
          · have HNY := Lib.hid (HY.out hd)
            go_wp2
            refine region_after (by kernel_rfl) (by kernel_rfl) ?_
            repeat (any_goals (first | go_big_quiet_step (fail)  | quiet_step (fail) | (refine wpQuiet_step (fun K hK => ?_); go_simp; split <;> (refine hK _ ?_; clear hK K))))
            all_goals (refine wpQuiet_nil ?_; intro s)
            all_goals go_wp2
            have hB := step_ HBB.out (Nat.le_refl _) s.hb
            have hR := HRR.out.below s.hb
            have hrow := HRO.out.below s.hb
            have hxr := After.keep HXR.out s
            have hyr := After.keep HYR.out s
            have hgs : g < s.w'.heap.size := Nat.lt_of_lt_of_le HGT.out s.hb.size
            obtain ⟨ws, hws⟩ : ∃ ws, s.w' = ws := ⟨_, rfl⟩
            rw [hws] at hB hR hrow hxr hyr hgs ⊢
            clear hws hx1 hy1 s HRR HRO HBB HXR HYR HGT
            have own : Own w 22 1 ws _ (zs.map IL.lst) := ⟨hR.1, hB⟩
            have HKEEP := Lib.hid (show ∀ W', Below ws.heap.size ws W' → W'.cell? ⟨g, i * 3, none⟩ = some (.int .i64 yr) ∧ W'.cell? ⟨g, j * 3, none⟩ = some (.int .i64 xr) from fun W' hW' => ⟨After.keep hyr ⟨W', hW'⟩, After.keep hxr ⟨W', hW'⟩⟩)
            have HPOST := Lib.hid (show ∀ Wm W', Below ws.heap.size ws Wm → Wm.grownBy W' u6.ownBlock → W'.cell? ⟨g, i * 3, none⟩ = some (.int .i64 yr) ∧ W'.cell? ⟨g, j * 3, none⟩ = some (.int .i64 xr) from fun Wm W' hWm hg' => by
              obtain ⟨e1, e2⟩ := HKEEP.out Wm hWm
              have hne : u6.ownBlock ≠ some g := HNE.out g rfl
              exact ⟨hg'.cell_far_ e1 hne, hg'.cell_far_ e2 hne⟩)
            have HLL := Lib.hid (show (zs.map IL.lst).length + 1 ≤ 2147483648 by
              have h1 := congrArg List.length HZ.out
              have h2 := (nearN_len q G (N + min j F.length)).1
              have h3 := HFL.out
              rw [List.length_map] at h1 ⊢
              omega)
            obtain ⟨cur, hcur⟩ : ∃ cur, cur = zs.map IL.lst := ⟨_, rfl⟩
            rw [← hcur] at own HLL
            have HCUR := Lib.hid hcur
            have HRR := Lib.hid hR
            have HRO := Lib.hid hrow
            have HGS := Lib.hid hgs
            have HBS := Lib.hid hB
            clear hcur hR hrow hgs hB
            go_wp2_with fail
            go_region_held3 (fun w' => w'.cell? ⟨g, i * 3, none⟩ = some (.int .i64 yr) ∧ w'.cell? ⟨g, j * 3, none⟩ = some (.int .i64 xr))
              (first | exact HPOST.out _ _ (by (repeat (first | (with_reducible exact Below.refl _ _) | (with_reducible exact Own.b own3) | (with_reducible exact Own.b own2) | (with_reducible exact Own.b own1) | (with_reducible refine Below.drew ?_) | (with_reducible refine below_alloc ?_ _)))) hg5 | exact HKEEP.out _ (by (repeat (first | (with_reducible exact Below.refl _ _) | (with_reducible exact Own.b own3) | (with_reducible exact Own.b own2) | (with_reducible exact Own.b own1) | (with_reducible refine Below.drew ?_) | (with_reducible refine below_alloc ?_ _)))))
              (first | (refine Ty.stepAppend (w0 := w) tyIL (by rfl) _ _ (by rfl) u6 cur (by rfl) (by (repeat (first | (with_reducible assumption) | (with_reducible exact Own.nil (by (repeat (first | (with_reducible exact Below.refl _ _) | (with_reducible exact Own.b own3) | (with_reducible exact Own.b own2) | (with_reducible exact Own.b own1) | (with_reducible refine Below.drew ?_) | (with_reducible refine below_alloc ?_ _)))) _ (by simp)) | (with_reducible refine Own.drew ?_) | (with_reducible refine Own.alloc ?_ _)))) _ 1 1 [[.slice (some ⟨ws.heap.size, 0, none⟩) 2 2]] (by rfl) (by (repeat (first | (with_reducible assumption) | (with_reducible exact Src.lit _ _ _ _ (by simp) rfl (by simp [Value.oneCell'])) | (with_reducible refine Src.drew ?_) | (with_reducible refine Src.alloc ?_ _) | (with_reducible refine Src.grown ?_ (by with_reducible assumption) (by simp [Value.ownBlock]))))) HLL.out ?_; intro v5 w5 own5 hg5 hat5))
            all_goals
              have hP := HRR.out.push (z := ⟨[yr, xr], some ⟨ws.heap.size, 0, none⟩, 2, 2⟩) HBS.out.size (below_alloc (below_alloc (Below.refl _ _) _) _).drew (pair_row ws yr xr _) (by rw [← HCUR.out]; exact own5.1) hg5 hat5
              have hR5 := (((HRO.out.alloc (.cells #[.int .i64 yr, .int .i64 xr] 3)).alloc (.cells #[.slice (some ⟨ws.heap.size, 0, none⟩) 2 2] 22)).drew).kept hg5 HNE.out.or
              have hN5 := HNE.out.grown hat5 (fun q hq => by have := HGS.out; simp [Value.ownBlock] at hq; simp; omega)
              have HB5 := Lib.hid own5.2
              have HP5 := Lib.hid hP
              have HN5 := Lib.hid hN5
              have HQ5 := Lib.hid (show (zs ++ [(⟨[yr, xr], some ⟨ws.heap.size, 0, none⟩, 2, 2⟩ : IL)]).map IL.k = nearN q G (N + min (j + 1) F.length) by rw [List.map_append, HZ.out, HNX.out, HNY.out]; rfl)
              clear hat5 hg5 own own5 hP hN5 hyr hxr
              go_wp2
              go_roundw
              case rel => exact ⟨j + 1, _, by omega, by omega, by go_num, HQ5.out, HP5.out, hR5, HN5.out, HB5.out⟩
              case measure => simp [intOf]; omega
          · have HQ5 := Lib.hid (show zs.map IL.k = nearN q G (N + min (j + 1) F.length) by rw [HNX.out, HX.out (fun h => hd h.2), List.append_nil]; exact HZ.out)
            go_wp2
            refine region_after (by kernel_rfl) (by kernel_rfl) ?_
            repeat (any_goals (first | go_big_quiet_step (fail)  | quiet_step (fail) | (refine wpQuiet_step (fun K hK => ?_); go_simp; split <;> (refine hK _ ?_; clear hK K))))
            all_goals (refine wpQuiet_nil ?_; intro s)
            all_goals go_wp2
            have HB5 := Lib.hid (step_ HBB.out (Nat.le_refl _) s.hb)
            have HP5 := Lib.hid (HRR.out.below s.hb)
            have hR5 := HRO.out.below s.hb
            go_roundw
            case rel => exact ⟨j + 1, zs, by omega, by omega, by go_num, HQ5.out, HP5.out, hR5, HNE.out, HB5.out⟩
            case measure => simp [intOf]; omega
        · go_wp2
          have hm0 : min j F.length = F.length := by omega
          rw [hm0] at HZ
          go_roundw
          case rel => exact ⟨k + 1, zs, by omega, by go_num, by show _ = _; rw [HST.out]; exact HZ.out, hR, hb⟩
          case measure => simp [intOf]; omega
    · go_wp2
      go_ret2
      obtain rfl : k = xs.length := by omega
      have e : (xs.map Ht.k).take xs.length = xs.map Ht.k := List.take_of_length_le (by simp)
      have hz := HZ.out
      rw [e, ← HGE.out] at hz
      exact ⟨_, zs, rfl, hz, hR, hb⟩
end Go.Proofs.Ytabgmbmaakglkaa
