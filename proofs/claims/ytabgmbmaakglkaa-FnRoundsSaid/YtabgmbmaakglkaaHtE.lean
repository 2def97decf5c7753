/- Finishers in memory, plain steps of their orders, and the walk of the reference's order. No condition. -/
import Derived.Test.YtabgmbmaakglkaaHtB
import Derived.Test.YtabgmbmaakglkaaReg
import Derived.Deep.DeepCutAuto
import Derived.Deep.CutBlock
namespace Go.Proofs.Ytabgmbmaakglkaa
open Go Go.RowKit

theorem ints_len (n : Int) : (ints n).length = 1 := rfl
/-- Places in a heat, as numbers. -/
def ixs (l : List Nat) : List (List Value) := (l.map fun i => ((i : Nat) : Int)).map ints
theorem ixs_len (l : List Nat) : (ixs l).length = l.length := by simp [ixs]
theorem ixs_get {l : List Nat} {i : Nat} (h : i < (ixs l).length) : (ixs l)[i] = ints (l[i]'(by simpa [ixs] using h) : Nat) := by simp [ixs]
/-- The order of the first k. -/
def ordTo (h : HK) (k : Nat) : List Nat := putAll (ltJ h) ((List.range k).filter (fin1 h))
theorem ordTo_zero (h : HK) : ordTo h 0 = [] := rfl
theorem ordTo_all (h : HK) : ordTo h h.runners.length = ordI h := rfl
theorem ordTo_yes {h : HK} {k : Nat} (hf : fin1 h k = true) : ordTo h (k + 1) = putIn (ltJ h) (ordTo h k) k := by
  unfold ordTo
  rw [List.range_succ, List.filter_append, putAll_append]
  simp [hf]
theorem ordTo_no {h : HK} {k : Nat} (hf : fin1 h k = false) : ordTo h (k + 1) = ordTo h k := by
  unfold ordTo
  rw [List.range_succ, List.filter_append, putAll_append]
  simp [hf]
theorem ordTo_lt {h : HK} {k : Nat} : ∀ i ∈ ordTo h k, i < k := by
  intro i hi
  have := (putAll_perm (ltJ h) ((List.range k).filter (fin1 h))).mem_iff.1 hi
  simpa using (List.mem_filter.1 this).1
theorem ordTo_len (h : HK) (k : Nat) : (ordTo h k).length ≤ k := by
  unfold ordTo
  rw [putAll_len]
  have := List.length_filter_le (fin1 h) (List.range k)
  simpa using this
theorem fin1_eq {h : HK} (hg : GoodH h) {k : Nat} (hk : k < h.times.length) : fin1 h k = !decide (h.times[k] = 0) := by
  have h1 := (hg.2.2 k (by have := hg.2.1; omega) hk).2.2.1
  simp only [fin1, tmAt_eq hk]
  rw [Bool.eq_iff_iff]
  simp
  omega

set_option maxRecDepth 100000 in
set_option maxHeartbeats 4000000 in
theorem l18Order_any (p : Ht) (w : World) (h : p.In w) (hg : goodH p.k = true) :
    Calls Try.prog 52 #[p.val] w fun e w' => ∃ r, e = .returned r ∧ Row w.heap.size 3 1 w' r (ixs (ordI p.k)) ∧ Below w.heap.size w w' := by
  have hpl := h.len
  have hgg := goodH_iff.1 hg
  obtain ⟨⟨rs, ts⟩, A, n, c, B, m, d⟩ := p
  simp only at hpl
  obtain ⟨rfl, rfl⟩ := hpl
  have hW : Below w.heap.size w (w.alloc (.cells #[.slice A rs.length c, .slice B ts.length d] 28)) := below_alloc (Below.refl _ _) _
  have hcn := Ht.cellsNew w ⟨⟨rs, ts⟩, A, rs.length, c, B, ts.length, d⟩ 28
  simp only at hcn
  have h2 := h.below hW
  have ht : Sl (Flat ints) 1 _ (.slice B ts.length d) ts := h2.2
  have HW := Lib.hid hW
  show Calls Try.prog 52 #[.agg #[.slice A rs.length c, .slice B ts.length d]] w fun e w' => ∃ r, e = .returned r ∧ Row w.heap.size 3 1 w' r (ixs (ordI ⟨rs, ts⟩)) ∧ Below w.heap.size w w'
  clear h h2 hW hg
  obtain ⟨B', d', hv, hcB, hmB, hkB⟩ := ht.open_
  simp only [Value.slice.injEq] at hv
  obtain ⟨rfl, _, rfl⟩ := hv
  clear ht
  have HFIN := Lib.hid (fun k (hk : k < ts.length) => fin1_eq (h := ⟨rs, ts⟩) hgg hk)
  have HTM := Lib.hid (fun k (hk : k < ts.length) => tmAt_eq (h := ⟨rs, ts⟩) hk)
  have E2 := Lib.hid (show ts.length = rs.length from hgg.2.1)
  have HRL := Lib.hid (show rs.length ≤ 6 from hgg.1.2)
  clear hgg
  go_enter Try.func52, Try.ntmps52
  go_wp2_with fail
  have HLE := Lib.hid (show w.heap.size ≤ (w.alloc (.cells #[.slice A rs.length c, .slice B ts.length d] 28)).heap.size by simp)
  have HSZ := Lib.hid (show (w.alloc (.cells #[.slice A rs.length c, .slice B ts.length d] 28)).heap.size = w.heap.size + 1 by simp)
  generalize w.alloc (.cells #[.slice A rs.length c, .slice B ts.length d] 28) = W at *
  have HO0 := Lib.hid (show Own W 3 1 (W.alloc (.cells #[] 3)) (.slice (some ⟨w.heap.size + 1, 0, none⟩) 0 0) [] from Own.nil (Below.refl _ _) _ HSZ.out)
  go_loopw [3, 4] (fun o i wr => ∃ k : Nat, k ≤ rs.length ∧ i = .int .i64 k ∧ Own W 3 1 wr o (ixs (ordTo ⟨rs, ts⟩ k)))
    (fun _ i _ => rs.length - (intOf i).toNat)
  case atStart => exact ⟨0, Nat.zero_le _, rfl, HO0.out⟩
  case round =>
    obtain ⟨k, hkl, rfl, own⟩ := hrel
    clear HO0
    have hc1 := hcn ⟨wr, own.b⟩
    simp only at hc1
    have hd := fun (s : After wr) => hcn ⟨s.w', step_ own.b (Nat.le_refl _) s.hb⟩
    simp only at hd
    by_cases hlr : k < rs.length
    · have hlt : k < ts.length := by have := E2.out; omega
      obtain ⟨b, ob, rfl, hatB⟩ := flat_at hkB (by omega)
      have HAT := Lib.hid (show ∀ i (hi : i < ts.length), ∀ s : After wr, s.w'.cell? ⟨b, ob + i, none⟩ = some (.int .i64 ts[i]) from fun i hi => by
        have := After.keep (int_at (rangeAt_below (hatB i hi) own.b))
        rw [Nat.mul_one] at this
        exact this)
      have hct := HAT.out k hlt ⟨wr, Below.refl _ _⟩
      simp only at hct
      have HF := Lib.hid (HFIN.out k hlt)
      have HTK := Lib.hid (HTM.out k hlt)
      obtain ⟨t, htt⟩ : ∃ t, t = ts[k] := ⟨_, rfl⟩
      rw [← htt] at hct HF HTK
      have hd0 := HAT.out k hlt
      rw [← htt] at hd0
      clear hatB hkB htt
      by_cases h0 : t = 0
      · subst h0
        have HS := Lib.hid (show ordTo ⟨rs, ts⟩ (k + 1) = ordTo ⟨rs, ts⟩ k from ordTo_no (by rw [HF.out]; simp))
        go_wp2
        go_roundw
        case rel => exact ⟨k + 1, by omega, by go_num, by rw [HS.out]; exact own⟩
        case measure => simp [intOf]; omega
      · have h0' : (t == 0) = false := by simpa using h0
        have HS := Lib.hid (show ordTo ⟨rs, ts⟩ (k + 1) = putIn (ltJ ⟨rs, ts⟩) (ordTo ⟨rs, ts⟩ k) k from ordTo_yes (by rw [HF.out]; simp [h0]))
        have HPL := Lib.hid (show ∀ i ∈ ordTo ⟨rs, ts⟩ k, i < k from ordTo_lt)
        have hpl : (ordTo ⟨rs, ts⟩ k).length ≤ 6 := by have := ordTo_len ⟨rs, ts⟩ k; have := HRL.out; omega
        obtain ⟨pre, hpre⟩ : ∃ pre, pre = ordTo ⟨rs, ts⟩ k := ⟨_, rfl⟩
        rw [← hpre] at own HS HPL hpl
        clear hpre h0
        obtain ⟨A2, c2, rfl, hc2, hm2⟩ := own.1.parts
        simp only [ixs_len] at own hc2 ⊢
        have hrow := own.1
        obtain ⟨wo, rfl⟩ : ∃ wo : World, wo = wr := ⟨_, rfl⟩
        go_upto_block 2 with fail
        go_cut [5] (fun kv wx => ∃ j : Nat, j = placeIn (ltJ ⟨rs, ts⟩) pre k pre.length ∧ j ≤ pre.length ∧ kv = .int .i64 j ∧ Below wo.heap.size wo wx)
        case first =>
          go_wp2_with fail
          go_loopw [5] (fun jv wi => ∃ j : Nat, j ≤ pre.length ∧ jv = .int .i64 j ∧ Hid (∀ p (h : p < pre.length), j ≤ p → ltJ ⟨rs, ts⟩ k pre[p] = true) ∧ Below wo.heap.size wo wi)
            (fun jv _ => (intOf jv).toNat)
          case atStart => exact ⟨pre.length, Nat.le_refl _, rfl, fun p h hp => absurd h (by omega), Below.refl _ _⟩
          case round =>
            obtain ⟨j, hjl, rfl, HP, hb⟩ := hrel
            have hdd := fun (s : After wr) => hd ⟨s.w', step_ hb (Nat.le_refl _) s.hb⟩
            simp only at hdd
            have hdk := fun (s : After wr) => hd0 ⟨s.w', step_ hb (Nat.le_refl _) s.hb⟩
            simp only at hdk
            by_cases h0 : 0 < j
            · obtain ⟨g, cap, he, hbg, hg, hcap⟩ := hrow.form (by rw [ixs_len]; omega)
              simp only [Value.slice.injEq] at he
              obtain ⟨rfl, hq, rfl⟩ := he
              clear hq hg hcap hbg
              have hjp : j - 1 < pre.length := by omega
              have hr1 := hrow.range (k := j - 1) (by rw [ixs_len]; exact hjp)
              rw [ixs_get] at hr1
              have hyc := After.keep (int_at (rangeAt_below hr1 hb))
              rw [Nat.mul_one] at hyc
              have hyk := HPL.out _ (List.getElem_mem hjp)
              have hyt : pre[j - 1] < ts.length := by omega
              have hty := fun (s : After wr) => HAT.out pre[j - 1] hyt ⟨s.w', step_ hb (Nat.le_refl _) s.hb⟩
              simp only at hty
              have HTY := Lib.hid (HTM.out pre[j - 1] hyt)
              obtain ⟨ty, hty0⟩ : ∃ ty, ty = ts[pre[j - 1]] := ⟨_, rfl⟩
              rw [← hty0] at hty HTY
              clear hty0
              obtain ⟨y, hy⟩ : ∃ y, y = pre[j - 1] := ⟨_, rfl⟩
              rw [← hy] at hyc hyt hty HTY
              have HY := Lib.hid hy
              have HLT := Lib.hid (show ltJ ⟨rs, ts⟩ k y = decide (t < ty) by unfold ltJ; rw [HTK.out, HTY.out])
              have hz1 : (0 : Int) ≤ (j : Int) - 1 := by omega
              have hz2 : (j : Int) - 1 < (pre.length : Int) := by omega
              have hz3 : (y : Int) < (ts.length : Int) := by omega
              have h0' : decide (0 < j) = true := by simpa using h0
              have HB := Lib.hid hb
              clear hy hr1 hyk hb
              by_cases hlty : t < ty
              · go_wp2
                refine region_after (by kernel_rfl) (by kernel_rfl) ?_
                repeat (any_goals (first | go_big_quiet_step (fail)  | quiet_step (fail) | (refine wpQuiet_step (fun K hK => ?_); go_simp; split <;> (refine hK _ ?_; clear hK K))))
                all_goals (refine wpQuiet_nil ?_; intro s)
                all_goals go_wp2
                go_roundw
                case rel => exact ⟨j - 1, by omega, by congr 1; omega, fun p h hp => by
                  by_cases e : p = j - 1
                  · subst e; rw [← HY.out, HLT.out]; simpa using hlty
                  · exact HP.out p h (by omega), step_ HB.out (Nat.le_refl _) s.hb⟩
                case measure => simp [intOf]; omega
              · go_wp2
                refine region_after (by kernel_rfl) (by kernel_rfl) ?_
                repeat (any_goals (first | go_big_quiet_step (fail)  | quiet_step (fail) | (refine wpQuiet_step (fun K hK => ?_); go_simp; split <;> (refine hK _ ?_; clear hK K))))
                all_goals (refine wpQuiet_nil ?_; intro s)
                all_goals go_wp2
                go_meet
                exact ⟨j, (placeIn_is (ltJ ⟨rs, ts⟩) hjl HP.out (.inr ⟨hjp, by rw [← HY.out, HLT.out]; simpa using hlty⟩)).symm, hjl, rfl, step_ HB.out (Nat.le_refl _) s.hb⟩
            · obtain rfl : j = 0 := by omega
              go_wp2
              refine region_after (by kernel_rfl) (by kernel_rfl) ?_
              repeat (any_goals (first | go_big_quiet_step (fail)  | quiet_step (fail) | (refine wpQuiet_step (fun K hK => ?_); go_simp; split <;> (refine hK _ ?_; clear hK K))))
              all_goals (refine wpQuiet_nil ?_; intro s)
              all_goals go_wp2
              go_meet
              exact ⟨0, (placeIn_is (ltJ ⟨rs, ts⟩) (Nat.zero_le _) HP.out (.inl rfl)).symm, Nat.zero_le _, rfl, step_ hb (Nat.le_refl _) s.hb⟩
        case rest =>
          obtain ⟨j, hj, hjl, rfl, hb⟩ := hcut
          have HJ := Lib.hid hj
          clear hj
          have ownc := own.below hb
          have hsrc : Src wc 1 A2 pre.length (ixs pre) := Row.src ownc.1 ints_len ints_one
          have HTL := Lib.hid (hsrc.take hjl)
          have HDL := Lib.hid (show Src wc 1 (if c2 = j then A2 else A2.map fun a => a.add j) (pre.length - j) (List.drop j (ixs pre)) from by have := Src.cut hsrc hjl hc2; rw [Nat.mul_one] at this; exact this)
          have HL1 := Lib.hid (show ([] : List (List Value)).length + j ≤ 2147483648 by simp; omega)
          have HL2 := Lib.hid (show (([] : List (List Value)) ++ List.take j (ixs pre)).length + 1 ≤ 2147483648 by rw [List.nil_append, List.length_take, ixs_len, Nat.min_eq_left hjl]; omega)
          have HL3 := Lib.hid (show ((([] : List (List Value)) ++ List.take j (ixs pre)) ++ [[Value.int .i64 (k : Int)]]).length + (pre.length - j) ≤ 2147483648 by rw [List.nil_append, List.length_append, List.length_take, ixs_len, Nat.min_eq_left hjl]; simp; omega)
          have hk0 : (0 : Int) ≤ (j : Int) := by omega
          have hk1 : (j : Int) ≤ (pre.length : Int) := by omega
          have hk2 : (j : Int) ≤ (c2 : Int) := by omega
          have HFIN2 := Lib.hid (fun (w3 : World) (v3 : Value) (own3 : Own wc 3 1 w3 v3 ((([] ++ List.take j (ixs pre)) ++ [[Value.int .i64 (k : Int)]]) ++ List.drop j (ixs pre))) => show Own W 3 1 w3 v3 (ixs (putIn (ltJ ⟨rs, ts⟩) pre k)) from by
            refine ⟨?_, step_ ownc.2 (Nat.le_refl _) own3.2⟩
            have := own3.1.mono ownc.2.size
            simpa [putIn, ← HJ.out, ixs, ints] using this)
          clear hsrc ownc own hrow
          go_wp2_with fail
          go_region_held3 (fun _ => True) (trivial)
            (first
              | (refine Ty.stepAppendOld (w0 := wc) tyInt (by rfl) _ _ (by rfl) (.slice (some ⟨_, 0, none⟩) 0 0) [] (by rfl) (by (repeat (first | (with_reducible assumption) | (with_reducible exact Own.nil (by (repeat (first | (with_reducible exact Below.refl _ _) | (with_reducible exact Own.b own3) | (with_reducible exact Own.b own2) | (with_reducible exact Own.b own1) | (with_reducible refine Below.drew ?_) | (with_reducible refine below_alloc ?_ _)))) _ (by simp)) | (with_reducible refine Own.drew ?_) | (with_reducible refine Own.alloc ?_ _)))) A2 j _ _ (by rfl) HTL.out HL1.out ?_; intro v1 w1 own1 hg1 hat1)
              | (refine Ty.stepAppend (w0 := wc) tyInt (by rfl) _ _ (by rfl) v1 _ (by rfl) (by (repeat (first | (with_reducible assumption) | (with_reducible exact Own.nil (by (repeat (first | (with_reducible exact Below.refl _ _) | (with_reducible exact Own.b own3) | (with_reducible exact Own.b own2) | (with_reducible exact Own.b own1) | (with_reducible refine Below.drew ?_) | (with_reducible refine below_alloc ?_ _)))) _ (by simp)) | (with_reducible refine Own.drew ?_) | (with_reducible refine Own.alloc ?_ _)))) _ 1 1 [[.int .i64 (k : Int)]] (by rfl) (by (repeat (first | (with_reducible assumption) | (with_reducible exact Src.lit _ _ _ _ (by simp) rfl (by simp [Value.oneCell'])) | (with_reducible refine Src.drew ?_) | (with_reducible refine Src.alloc ?_ _) | (with_reducible refine Src.grown ?_ (by with_reducible assumption) (by simp [Value.ownBlock]))))) HL2.out ?_; intro v2 w2 own2 hg2 hat2)
              | (refine Ty.stepAppendOld (w0 := wc) tyInt (by rfl) _ _ (by rfl) v2 _ (by rfl) (by (repeat (first | (with_reducible assumption) | (with_reducible exact Own.nil (by (repeat (first | (with_reducible exact Below.refl _ _) | (with_reducible exact Own.b own3) | (with_reducible exact Own.b own2) | (with_reducible exact Own.b own1) | (with_reducible refine Below.drew ?_) | (with_reducible refine below_alloc ?_ _)))) _ (by simp)) | (with_reducible refine Own.drew ?_) | (with_reducible refine Own.alloc ?_ _)))) _ _ _ _ (by rfl) HDL.out HL3.out ?_; intro v3 w3 own3 hg3 hat3))
          all_goals
            have hfin := HFIN2.out w3 v3 own3
            clear own3 own2 own1
            go_wp2
            go_roundw
            case rel => exact ⟨k + 1, by omega, by go_num, by rw [HS.out]; exact hfin⟩
            case measure => simp [intOf]; omega
    · go_wp2
      go_ret
      obtain rfl : k = rs.length := by omega
      exact ⟨_, rfl, own.1.mono HLE.out, step_ HW.out (Nat.le_refl _) own.2⟩
end Go.Proofs.Ytabgmbmaakglkaa
