/- The walk of the reference's PhotoFinish. No condition. -/
import Derived.Test.YtabgmbmaakglkaaHtI
import Derived.Test.YtabgmbmaakglkaaHtV
import Derived.Test.YtabgmbmaakglkaaIL
namespace Go.Proofs.Ytabgmbmaakglkaa
open Go Go.RowKit

set_option maxRecDepth 100000 in
set_option maxHeartbeats 8000000 in
theorem spec_PhotoFinish (xs : List Ht) (ks : List HK) (v : Value) (q : Int) (w : World) (hks : xs.map Ht.k = ks) (h : HtS w v xs) (hl : xs.length ≤ 1048577) (_ : I64 q) :
    Calls Try.prog 20 #[v, .int .i64 q] w fun e w' => ∃ r zs, e = .returned (.tuple #[r, .bool (askP ks q)]) ∧ zs.map IL.k = phV ks q ∧ ILR w.heap.size w' r zs ∧ Below w.heap.size w w' := by
  subst hks
  have hW : Below w.heap.size w (w.alloc (.cells #[] 22)) := below_alloc (Below.refl _ _) _
  have HG := Lib.hid (l18Good_any xs v _ (h.below hW) hl)
  have HR0 := Lib.hid (show ILR w.heap.size (w.alloc (.cells #[] 22)) (.slice (some ⟨w.heap.size, 0, none⟩) 0 0) [] from ILR.lit rfl (Nat.le_refl _))
  have HB0 := Lib.hid hW
  clear hW
  cases h1 : goodR (xs.map Ht.k) with
  | false =>
    have ha : askP (xs.map Ht.k) q = false := by simp [askP, h1]
    have HV := Lib.hid (phV_no ha)
    rw [ha, HV.out]
    rw [h1] at HG
    clear h1 h ha
    go_enter Try.func20, Try.ntmps20
    go_wp2_with (go_at_call 56; refine HG.out.mono ?_; rintro e w1 ⟨rfl, hb1⟩)
    go_ret2
    exact ⟨_, [], rfl, rfl, HR0.out.below hb1, step_ HB0.out (Nat.le_refl _) hb1⟩
  | true =>
  cases h2 : inB q 1 60 with
  | false =>
    have ha : askP (xs.map Ht.k) q = false := by unfold askP; rw [h1, Bool.true_and]; exact h2
    have HV := Lib.hid (phV_no ha)
    rw [ha, HV.out]
    rw [h1] at HG
    clear h1 h ha
    go_enter Try.func20, Try.ntmps20
    go_wp2_with (first
      | (go_at_call 56; refine HG.out.mono ?_; rintro e w1 ⟨rfl, hb1⟩)
      | (go_at_call 57; refine (l1In_any _ _ _ _).mono ?_; rintro e w'' ⟨rfl, rfl⟩))
    go_ret2
    exact ⟨_, [], rfl, rfl, HR0.out.below hb1, step_ HB0.out (Nat.le_refl _) hb1⟩
  | true =>
  have ha : askP (xs.map Ht.k) q = true := by simp only [askP, h1, Bool.true_and]; exact h2
  have HV := Lib.hid (phV_yes ha)
  have HPL := Lib.hid (fun W (hW : Below w.heap.size w W) => l18Places_any xs v W (h.below hW) h1)
  have HT := Lib.hid (fun f hf => allF_time (goodR_iff.1 h1) (f := f) hf)
  have HL := Lib.hid (goodR_len (goodR_iff.1 h1))
  have HN1 := Lib.hid (nearN_one q (xs.map Ht.k))
  rw [ha, HV.out]
  rw [h1] at HG
  obtain ⟨F, hF⟩ : ∃ F, F = allF (xs.map Ht.k) := ⟨_, rfl⟩
  rw [← hF] at HPL HT HL HN1 ⊢
  clear h1 h ha hF HV
  go_enter Try.func20, Try.ntmps20
  go_wp2_with fail
  refine HG.out.mono ?_
  rintro e w1 ⟨rfl, hb1⟩
  go_wp2_with fail
  refine (l1In_any _ _ _ _).mono ?_
  rintro e w'' ⟨rfl, rfl⟩
  have HB1 := Lib.hid (step_ HB0.out (Nat.le_refl _) hb1)
  have HR1 := Lib.hid (HR0.out.below hb1)
  clear hb1 HG HB0 HR0
  go_wp2_with fail
  refine (HPL.out _ HB1.out).mono ?_
  rintro e w2 ⟨r2, rfl, row2, hb2⟩
  have HB2 := Lib.hid (step_ HB1.out (Nat.le_refl _) hb2)
  have HR2 := Lib.hid (HR1.out.below hb2)
  have HD2 := Lib.hid (show Dis r2 (.slice (some ⟨w.heap.size, 0, none⟩) 0 0) from (Dis.new (n := w1.heap.size) (fun q hq => (HR1.out.1.lt q hq).2) (fun q hq => (row2.lt q hq).1)).symm)
  obtain ⟨A2, c2, rfl, hc2, hm2⟩ := row2.parts
  simp only [List.length_map] at row2 hc2 HD2 ⊢
  have HROW := Lib.hid (row2.mono HB1.out.size)
  clear row2 hb2 HPL HB1 HR1
  go_wp2
  go_loopw [6, 8] (fun o i wr => ∃ (k : Nat) (zs : List IL), 1 ≤ k ∧ k ≤ F.length + 1 ∧ i = .int .i64 k ∧ Hid (zs.map IL.k = nearN q F (min k F.length)) ∧ ILR w.heap.size wr o zs ∧ Row w.heap.size 80 3 wr (.slice A2 F.length c2) (F.map Fns.S) ∧ Hid (Dis (.slice A2 F.length c2) o) ∧ Below w.heap.size w wr)
    (fun _ i _ => F.length + 1 - (intOf i).toNat)
  case atStart => exact ⟨1, [], Nat.le_refl _, by omega, rfl, by
    rcases Nat.eq_zero_or_pos F.length with h0 | h0
    · rw [h0]; rfl
    · rw [Nat.min_eq_left h0, HN1.out]; rfl, HR2.out, HROW.out, HD2.out, HB2.out⟩
  case round =>
    clear HR2 HROW HD2 HB2
    obtain ⟨k, zs, hk1, hkl, rfl, HZ, hR, hrow, HNE, hb⟩ := hrel
    by_cases hlt : k < F.length
    · obtain ⟨g, cap, he, hbg, hg, hcap⟩ := hrow.form (by rw [List.length_map]; omega)
      simp only [Value.slice.injEq] at he
      obtain ⟨rfl, hq, rfl⟩ := he
      clear hq hcap hbg
      obtain ⟨j, hj⟩ : ∃ j, k = j + 1 := ⟨k - 1, by omega⟩
      have hjl : j < F.length := by omega
      have hr1 := hrow.range (k := k) (by rw [List.length_map]; exact hlt)
      have hr2 := hrow.range (k := j) (by rw [List.length_map]; exact hjl)
      rw [List.getElem_map] at hr1 hr2
      have HNX := Lib.hid (show nearN q F (min (k + 1) F.length) = nearN q F (min k F.length) ++ nearAt q F k by rw [Nat.min_eq_left (show k + 1 ≤ F.length by omega), Nat.min_eq_left (show k ≤ F.length by omega), nearN_succ])
      have ht1 := HT.out _ (List.getElem_mem hlt)
      have ht2 := HT.out _ (List.getElem_mem hjl)
      have hj1 : k - 1 < F.length := by omega
      have hej : F[k - 1] = F[j] := by congr 1; omega
      have HY := Lib.hid (fun h0 hq => nearAt_yes (q := q) hlt hj1 h0 hq)
      have HX := Lib.hid (fun h0 => nearAt_no (q := q) hlt hj1 h0)
      rw [hej] at HY HX
      obtain ⟨x, hx⟩ : ∃ x, x = F[k] := ⟨_, rfl⟩
      obtain ⟨y, hy⟩ : ∃ y, y = F[j] := ⟨_, rfl⟩
      rw [← hx] at hr1 ht1 HY HX
      rw [← hy] at hr2 ht2 HY HX
      clear hx hy hej
      obtain ⟨xp, xt, xr⟩ := x
      obtain ⟨yp, yt, yr⟩ := y
      simp only at ht1 ht2 HY HX
      have HJ := Lib.hid hj
      have hwr : IntKind.i64.wrap ((k : Int) - 1) = (j : Int) := by rw [IntKind.wrap_i64]; omega
      have hwt : IntKind.i64.wrap (xt - yt) = xt - yt := by rw [IntKind.wrap_i64]; omega
      have hz1 : (0 : Int) ≤ (j : Int) := by omega
      have hz2 : (j : Int) < (F.length : Int) := by omega
      have hz3 : (0 : Int) ≤ (k : Int) := by omega
      have hz4 : (k : Int) < (F.length : Int) := by omega
      have hFl : 0 < F.length := by omega
      have hcx := Fns.cellsS hr1
      have hcy := Fns.cellsS hr2
      simp only at hcx hcy
      have hx0 := After.keep hcx.1
      have hx1 := After.keep hcx.2.1
      have hy1 := After.keep hcy.2.1
      have HXR := Lib.hid hcx.2.2
      have HYR := Lib.hid hcy.2.2
      have HGT := Lib.hid hg
      have HRR := Lib.hid hR
      have HRO := Lib.hid hrow
      have HBB := Lib.hid hb
      clear hj hr1 hr2 ht1 ht2 hg hcx hcy hR hrow hb
      by_cases hp : 0 < xp
      · by_cases hd : xt - yt ≤ q
        · have HNY := Lib.hid (HY.out hp hd)
          go_wp2
          refine region_after (by kernel_rfl) (by kernel_rfl) ?_
          repeat (any_goals (first | go_big_quiet_step (fail)  | quiet_step (fail) | (refine wpQuiet_step (fun K hK => ?_); go_simp; split <;> (refine hK _ ?_; clear hK K))))
          all_goals (refine wpQuiet_nil ?_; intro s)
          all_goals go_wp2
          have hB := step_ HBB.out (Nat.le_refl _) s.hb
          have hR := HRR.out.below s.hb
          have hrow := HRO.out.below s.hb
          have hxr := After.keep HXR.out s
          have hyr := After.keep HYR.out s
          have hgs : g < s.w'.heap.size := Nat.lt_of_lt_of_le HGT.out s.hb.size
          obtain ⟨ws, hws⟩ : ∃ ws, s.w' = ws := ⟨_, rfl⟩
          rw [hws] at hB hR hrow hxr hyr hgs ⊢
          clear hws hx0 hx1 hy1 s HRR HRO HBB HXR HYR HGT
          have own : Own w 22 1 ws _ (zs.map IL.lst) := ⟨hR.1, hB⟩
          have HKEEP := Lib.hid (show ∀ W', Below ws.heap.size ws W' → W'.cell? ⟨g, j * 3 + 2, none⟩ = some (.int .i64 yr) ∧ W'.cell? ⟨g, k * 3 + 2, none⟩ = some (.int .i64 xr) from fun W' hW' => ⟨After.keep hyr ⟨W', hW'⟩, After.keep hxr ⟨W', hW'⟩⟩)
          have HPOST := Lib.hid (show ∀ Wm W', Below ws.heap.size ws Wm → Wm.grownBy W' u6.ownBlock → W'.cell? ⟨g, j * 3 + 2, none⟩ = some (.int .i64 yr) ∧ W'.cell? ⟨g, k * 3 + 2, none⟩ = some (.int .i64 xr) from fun Wm W' hWm hg' => by
            obtain ⟨e1, e2⟩ := HKEEP.out Wm hWm
            have hne : u6.ownBlock ≠ some g := HNE.out g rfl
            exact ⟨hg'.cell_far_ e1 hne, hg'.cell_far_ e2 hne⟩)
          have HLL := Lib.hid (show (zs.map IL.lst).length + 1 ≤ 2147483648 by
            have h1 := congrArg List.length HZ.out
            have h2 := (nearN_len q F (min k F.length)).1
            have h3 := HL.out
            rw [List.length_map] at h1 ⊢
            omega)
          obtain ⟨cur, hcur⟩ : ∃ cur, cur = zs.map IL.lst := ⟨_, rfl⟩
          rw [← hcur] at own HLL
          have HCUR := Lib.hid hcur
          have HRR := Lib.hid hR
          have HRO := Lib.hid hrow
          have HGS := Lib.hid hgs
          have HBS := Lib.hid hB
          clear hcur hR hrow hgs hB
          go_wp2_with fail
          go_region_held3 (fun w' => w'.cell? ⟨g, j * 3 + 2, none⟩ = some (.int .i64 yr) ∧ w'.cell? ⟨g, k * 3 + 2, none⟩ = some (.int .i64 xr))
            (first | exact HPOST.out _ _ (by (repeat (first | (with_reducible exact Below.refl _ _) | (with_reducible exact Own.b own3) | (with_reducible exact Own.b own2) | (with_reducible exact Own.b own1) | (with_reducible refine Below.drew ?_) | (with_reducible refine below_alloc ?_ _)))) hg5 | exact HKEEP.out _ (by (repeat (first | (with_reducible exact Below.refl _ _) | (with_reducible exact Own.b own3) | (with_reducible exact Own.b own2) | (with_reducible exact Own.b own1) | (with_reducible refine Below.drew ?_) | (with_reducible refine below_alloc ?_ _)))))
            (first | (refine Ty.stepAppend (w0 := w) tyIL (by rfl) _ _ (by rfl) u6 cur (by rfl) (by (repeat (first | (with_reducible assumption) | (with_reducible exact Own.nil (by (repeat (first | (with_reducible exact Below.refl _ _) | (with_reducible exact Own.b own3) | (with_reducible exact Own.b own2) | (with_reducible exact Own.b own1) | (with_reducible refine Below.drew ?_) | (with_reducible refine below_alloc ?_ _)))) _ (by simp)) | (with_reducible refine Own.drew ?_) | (with_reducible refine Own.alloc ?_ _)))) _ 1 1 [[.slice (some ⟨ws.heap.size, 0, none⟩) 2 2]] (by rfl) (by (repeat (first | (with_reducible assumption) | (with_reducible exact Src.lit _ _ _ _ (by simp) rfl (by simp [Value.oneCell'])) | (with_reducible refine Src.drew ?_) | (with_reducible refine Src.alloc ?_ _) | (with_reducible refine Src.grown ?_ (by with_reducible assumption) (by simp [Value.ownBlock]))))) HLL.out ?_; intro v5 w5 own5 hg5 hat5))
          all_goals
            have hP := HRR.out.push (z := ⟨[yr, xr], some ⟨ws.heap.size, 0, none⟩, 2, 2⟩) HBS.out.size (below_alloc (below_alloc (Below.refl _ _) _) _).drew (pair_row ws yr xr _) (by rw [← HCUR.out]; exact own5.1) hg5 hat5
            have hR5 := (((HRO.out.alloc (.cells #[.int .i64 yr, .int .i64 xr] 3)).alloc (.cells #[.slice (some ⟨ws.heap.size, 0, none⟩) 2 2] 22)).drew).kept hg5 HNE.out.or
            have hN5 := HNE.out.grown hat5 (fun q hq => by have := HGS.out; simp [Value.ownBlock] at hq; simp; omega)
            have HB5 := Lib.hid own5.2
            have HP5 := Lib.hid hP
            have HN5 := Lib.hid hN5
            have HQ5 := Lib.hid (show (zs ++ [(⟨[yr, xr], some ⟨ws.heap.size, 0, none⟩, 2, 2⟩ : IL)]).map IL.k = nearN q F (min (k + 1) F.length) by rw [List.map_append, HZ.out, HNX.out, HNY.out]; rfl)
            clear hat5 hg5 own own5 hP hN5 hyr hxr
            go_wp2
            go_roundw
            case rel => exact ⟨k + 1, _, by omega, by omega, by go_num, HQ5.out, HP5.out, hR5, HN5.out, HB5.out⟩
            case measure => simp [intOf]; omega
        · have HQ5 := Lib.hid (show zs.map IL.k = nearN q F (min (k + 1) F.length) by rw [HNX.out, HX.out (fun h => hd h.2), List.append_nil]; exact HZ.out)
          go_wp2
          refine region_after (by kernel_rfl) (by kernel_rfl) ?_
          repeat (any_goals (first | go_big_quiet_step (fail)  | quiet_step (fail) | (refine wpQuiet_step (fun K hK => ?_); go_simp; split <;> (refine hK _ ?_; clear hK K))))
          all_goals (refine wpQuiet_nil ?_; intro s)
          all_goals go_wp2
          have HB5 := Lib.hid (step_ HBB.out (Nat.le_refl _) s.hb)
          have HP5 := Lib.hid (HRR.out.below s.hb)
          have hR5 := HRO.out.below s.hb
          go_roundw
          case rel => exact ⟨k + 1, zs, by omega, by omega, by go_num, HQ5.out, HP5.out, hR5, HNE.out, HB5.out⟩
          case measure => simp [intOf]; omega
      · have HQ5 := Lib.hid (show zs.map IL.k = nearN q F (min (k + 1) F.length) by rw [HNX.out, HX.out (fun h => hp h.1), List.append_nil]; exact HZ.out)
        go_wp2
        refine region_after (by kernel_rfl) (by kernel_rfl) ?_
        repeat (any_goals (first | go_big_quiet_step (fail)  | quiet_step (fail) | (refine wpQuiet_step (fun K hK => ?_); go_simp; split <;> (refine hK _ ?_; clear hK K))))
        all_goals (refine wpQuiet_nil ?_; intro s)
        all_goals go_wp2
        have HB5 := Lib.hid (step_ HBB.out (Nat.le_refl _) s.hb)
        have HP5 := Lib.hid (HRR.out.below s.hb)
        have hR5 := HRO.out.below s.hb
        go_roundw
        case rel => exact ⟨k + 1, zs, by omega, by omega, by go_num, HQ5.out, HP5.out, hR5, HNE.out, HB5.out⟩
        case measure => simp [intOf]; omega
    · go_wp2
      go_ret2
      have hm0 : min k F.length = F.length := by omega
      have hz := HZ.out
      rw [hm0] at hz
      exact ⟨_, zs, rfl, hz, hR, hb⟩
end Go.Proofs.Ytabgmbmaakglkaa
