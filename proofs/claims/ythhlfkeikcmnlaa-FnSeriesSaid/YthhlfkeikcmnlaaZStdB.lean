/- Standings, the reference's. No condition. -/
import Derived.Test.YthhlfkeikcmnlaaZStdA
import Derived.Test.YthhlfkeikcmnlaaZPut
namespace Go.Proofs.Ythhlfkeikcmnlaa
open Go Go.RowKit

abbrev ltStd (x : List Score) (m : Int) : Int → Int → Bool := ltC (cmpStand x m)
set_option maxRecDepth 100000 in
set_option maxHeartbeats 8000000 in
theorem spec_Standings (n m : Int) (x : List Score) (v : Value) (w : World) (_ : I64 n) (_ : I64 m) (h : Sl (Flat Score.lst) 3 w v x) (_ : ∀ p ∈ x, Score.ok p) :
    Calls Try.prog 35 #[.int .i64 n, .int .i64 m, v] w fun e w' => ∃ r, e = .returned (.tuple #[r, .bool (goodS n m x)]) ∧ Row w.heap.size 3 1 w' r ((stdV n m x).map ints) ∧ Below w.heap.size w w' := by
  have own0 : Own w 3 1 (w.alloc (.cells #[] 3)) (.slice (some ⟨w.heap.size, 0, none⟩) 0 0) [] := Own.nil (Below.refl _ _) _ rfl
  have HG := Lib.hid (l20Good_any n m x v _ (h.below (Flat.keeps _) own0.2))
  by_cases hg : goodS n m x = true
  rotate_left
  · have hg' : goodS n m x = false := by simpa using hg
    have HV := Lib.hid (stdV_no hg')
    rw [hg'] at HG ⊢
    rw [HV.out]
    have HO := Lib.hid own0
    clear hg hg' h own0
    go_enter Try.func35, Try.ntmps35
    go_wp2_with (go_at_call 52; refine HG.out.mono ?_; rintro e w1 ⟨rfl, hb1⟩)
    go_ret2
    have := HO.out.below hb1
    exact ⟨_, rfl, this.1, this.2⟩
  have hn40 := good_len hg
  obtain ⟨hm1, hm8⟩ := good_best hg
  have HOWN := Lib.hid (fun a => Nat.le_trans (own_len hg a) (by omega : 8 ≤ 20))
  have HSM := Lib.hid (small_good hg)
  have HL := Lib.hid (runsS_len x)
  have HV := Lib.hid (stdV_yes hg)
  have HSL := Lib.hid h
  have HO := Lib.hid own0
  rw [hg] at HG ⊢
  rw [HV.out]
  clear hg h HV own0
  go_enter Try.func35, Try.ntmps35
  go_upto_block 0 with (first
    | (go_at_call 52; refine HG.out.mono ?_; rintro e w1 ⟨rfl, hb1⟩; have HO1 := Lib.hid (HO.out.below hb1))
    | (go_at_call 68; refine (l20Runners_any x v _ (HSL.out.below (Flat.keeps _) HO1.out.2) (by omega)).mono ?_; rintro e w2 ⟨o2, rfl, row2, hb2⟩; have HO2 := Lib.hid (HO1.out.below hb2)))
  obtain ⟨l, hl⟩ : ∃ l, runsS x = l := ⟨_, rfl⟩
  rw [hl] at row2 HL
  have HLE := Lib.hid hl
  have hl40 : l.length ≤ 40 := by have := HL.out; omega
  obtain ⟨A, c, rfl, hc, hcm⟩ := row2.parts
  simp only [List.length_map] at row2 hc ⊢
  have HR2 := Lib.hid row2
  clear hl row2 HO HO1 hb1 hb2
  have HCELL := Lib.hid (show ∀ k (hk : k < l.length) W, Below w2.heap.size w2 W → ∃ g, A = some ⟨g, 0, none⟩ ∧ W.cell? ⟨g, k, none⟩ = some (.int .i64 l[k]) from fun k hk W hW => by
    obtain ⟨g, cap, he, hbg, hg, hcap⟩ := HR2.out.form (by simp; omega)
    simp only [Value.slice.injEq] at he
    obtain ⟨rfl, _, rfl⟩ := he
    exact ⟨g, rfl, row_int (HR2.out.below hW) hk⟩)
  go_cut [8] (fun ov wx => Own w 3 1 wx ov ((putAll (ltStd x m) l).map ints))
  case first =>
    go_wp2_with fail
    go_loopw [8, 10] (fun o i wr => ∃ k : Nat, k ≤ l.length ∧ i = .int .i64 k ∧ Own w 3 1 wr o ((putAll (ltStd x m) (l.take k)).map ints) ∧ Hid (Below w2.heap.size w2 wr))
      (fun _ i _ => l.length - (intOf i).toNat)
    case atStart => exact ⟨0, Nat.zero_le _, rfl, HO2.out, Below.refl _ _⟩
    case round =>
      clear HO2
      obtain ⟨k, hkl, rfl, own, HBW⟩ := hrel
      by_cases hlt : k < l.length
      · obtain ⟨gl, rfl, hcl⟩ := HCELL.out k hlt wr HBW.out
        have HS := Lib.hid (putAll_take (ltStd x m) l k hlt)
        obtain ⟨y0, hy0⟩ : ∃ y, l[k] = y := ⟨_, rfl⟩
        rw [hy0] at hcl HS
        obtain ⟨pre, hpre⟩ : ∃ pre, putAll (ltStd x m) (l.take k) = pre := ⟨_, rfl⟩
        have hpl : pre.length ≤ 40 := by rw [← hpre, putAll_len]; simp; omega
        rw [hpre] at own HS
        clear hpre hy0
        obtain ⟨A2, c2, rfl, hc2, hm2⟩ := own.1.parts
        simp only [List.length_map] at own hc2 ⊢
        have hrow := own.1
        obtain ⟨wo, rfl⟩ : ∃ wo : World, wo = wr := ⟨_, rfl⟩
        go_upto_block 2 with fail
        go_cut [11] (fun kv wx => ∃ j : Nat, j = placeIn (ltStd x m) pre y0 pre.length ∧ j ≤ pre.length ∧ kv = .int .i64 j ∧ Below wo.heap.size wo wx)
        case first =>
          go_wp2_with fail
          go_loopw [11] (fun jv wi => ∃ j : Nat, j ≤ pre.length ∧ jv = .int .i64 j ∧ Hid (∀ p (h : p < pre.length), j ≤ p → ltStd x m y0 pre[p] = true) ∧ Below wo.heap.size wo wi)
            (fun jv _ => (intOf jv).toNat)
          case atStart => exact ⟨pre.length, Nat.le_refl _, rfl, fun p h hp => absurd h (by omega), Below.refl _ _⟩
          case round =>
            obtain ⟨j, hjl, rfl, HP, hb⟩ := hrel
            by_cases h0 : 0 < j
            · obtain ⟨g, cap, he, hbg, hg, hcap⟩ := hrow.form (by simp; omega)
              simp only [Value.slice.injEq, List.length_map] at he
              obtain ⟨rfl, hq, rfl⟩ := he
              have hjp : j - 1 < pre.length := by omega
              have hr1 := row_int (hrow.below hb) hjp
              obtain ⟨y, hy⟩ : ∃ y, pre[j - 1] = y := ⟨_, rfl⟩
              rw [hy] at hr1
              have hd1 := After.keep hr1
              have hd2 := After.keep (After.keep hcl ⟨wr, hb⟩)
              simp only at hd2
              have HY := Lib.hid hy
              obtain ⟨t, ht⟩ : ∃ t, ltStd x m y0 y = t := ⟨_, rfl⟩
              have HT := Lib.hid ht
              have HC := Lib.hid (show ∀ s : After wr, Calls Try.prog 69 #[.int .i64 m, v, .int .i64 y0, .int .i64 y] s.w' fun e w' => e = .returned (.bool t) ∧ Below s.w'.heap.size s.w' w' from fun s => by
                have hB := step_ own.2 (Nat.le_refl _) (step_ hb (Nat.le_refl _) s.hb)
                have := l20Before_any x m y0 y v s.w' (HSL.out.below (Flat.keeps _) hB) (by omega) (HOWN.out _) (HOWN.out _) (by omega) (by omega) HSM.out
                rw [← ht]
                exact this)
              have hz1 : (j : Int) - 1 = ((j - 1 : Nat) : Int) := by omega
              have h0' : decide (0 < j) = true := by simpa using h0
              have hkn : k < l.length := hlt
              have HB := Lib.hid hb
              obtain ⟨q, hq2⟩ : ∃ q, j - 1 = q := ⟨_, rfl⟩
              have HJQ := Lib.hid (show j = q + 1 by omega)
              rw [hq2] at hd1 hz1
              have hqp : q < pre.length := by omega
              clear hy hr1 hb ht hq hq2 hcl
              cases t with
              | false =>
                go_wp2
                refine region_after (by kernel_rfl) (by kernel_rfl) ?_
                repeat (any_goals (first | go_big_quiet_step ((go_at_call 69; exact Calls.after (v := .bool false) _ (HC.out _)))  | quiet_step ((go_at_call 69; exact Calls.after (v := .bool false) _ (HC.out _))) | (refine wpQuiet_step (fun K hK => ?_); go_simp; split <;> (refine hK _ ?_; clear hK K))))
                all_goals (refine wpQuiet_nil ?_; intro s)
                all_goals go_wp2
                go_meet
                exact ⟨j, (placeIn_is (ltStd x m) hjl HP.out (.inr ⟨hjp, by rw [HY.out]; exact HT.out⟩)).symm, hjl, rfl, step_ HB.out (Nat.le_refl _) s.hb⟩
              | true =>
                go_wp2
                refine region_after (by kernel_rfl) (by kernel_rfl) ?_
                repeat (any_goals (first | go_big_quiet_step ((go_at_call 69; exact Calls.after (v := .bool true) _ (HC.out _)))  | quiet_step ((go_at_call 69; exact Calls.after (v := .bool true) _ (HC.out _))) | (refine wpQuiet_step (fun K hK => ?_); go_simp; split <;> (refine hK _ ?_; clear hK K))))
                all_goals (refine wpQuiet_nil ?_; intro s)
                all_goals go_wp2
                go_roundw
                case rel => exact ⟨q, by omega, rfl, fun p h hp => by
                  by_cases e : p = q
                  · have := HY.out
                    have hjq := HJQ.out
                    subst hjq
                    subst e
                    simp only [Nat.add_sub_cancel] at this
                    rw [this]; exact HT.out
                  · exact HP.out p h (by have := HJQ.out; omega), step_ HB.out (Nat.le_refl _) s.hb⟩
                case measure => have := HJQ.out; simp [intOf]; omega
            · obtain rfl : j = 0 := by omega
              go_wp2
              refine region_after (by kernel_rfl) (by kernel_rfl) ?_
              repeat (any_goals (first | go_big_quiet_step (fail)  | quiet_step (fail) | (refine wpQuiet_step (fun K hK => ?_); go_simp; split <;> (refine hK _ ?_; clear hK K))))
              all_goals (refine wpQuiet_nil ?_; intro s)
              all_goals go_wp2
              go_meet
              exact ⟨0, (placeIn_is (ltStd x m) (Nat.zero_le _) HP.out (.inl rfl)).symm, Nat.zero_le _, rfl, step_ hb (Nat.le_refl _) s.hb⟩
        case rest =>
          obtain ⟨j, hj, hjl, rfl, hb⟩ := hcut
          have HJ := Lib.hid hj
          clear hj
          have ownc := own.below hb
          have hsrc := Row.src ownc.1 ints_len ints_one
          have hoT := hsrc.take hjl
          have HJL := Lib.hid hjl
          have HKEEP := Lib.hid (show ∀ W', Below wc.heap.size wc W' → W'.cell? ⟨gl, k, none⟩ = some (.int .i64 y0) from fun W' hW' => After.keep hcl ⟨W', step_ hb (Nat.le_refl _) hW'⟩)
          have hcb := HKEEP.out wc (Below.refl _ _)
          have HL1 := Lib.hid (show ([] : List (List Value)).length + j ≤ 2147483648 by simp; omega)
          have HL2 := Lib.hid (show (([] : List (List Value)) ++ List.take j (List.map ints pre)).length + 1 ≤ 2147483648 by rw [List.nil_append, List.length_take, List.length_map, Nat.min_eq_left hjl]; omega)
          have HL3 := Lib.hid (show ((([] : List (List Value)) ++ List.take j (List.map ints pre)) ++ [[Value.int .i64 y0]]).length + (pre.length - j) ≤ 2147483648 by rw [List.nil_append, List.length_append, List.length_take, List.length_map, Nat.min_eq_left hjl]; simp; omega)
          have hk0 : (0 : Int) ≤ (j : Int) := by omega
          have hk1 : (j : Int) ≤ (pre.length : Int) := by omega
          have hk2 : (j : Int) ≤ (c2 : Int) := by omega
          have hoD := Src.cut hsrc HJL.out hc2
          have HFIN := Lib.hid (fun (w3 : World) (v3 : Value) (own3 : Own wc 3 1 w3 v3 ((([] ++ List.take j (List.map ints pre)) ++ [[Value.int .i64 y0]]) ++ List.drop j (List.map ints pre))) => show Own w 3 1 w3 v3 ((putIn (ltStd x m) pre y0).map ints) ∧ Below w2.heap.size w2 w3 from by
            refine ⟨⟨?_, step_ ownc.2 (Nat.le_refl _) own3.2⟩, step_ (step_ HBW.out (Nat.le_refl _) hb) (Nat.le_refl _) own3.2⟩
            have := own3.1.mono ownc.2.size
            simpa [putIn, ← HJ.out, ints] using this)
          have HTL := Lib.hid hoT
          have HDL := Lib.hid hoD
          by_cases hjlt : j < pre.length
          · obtain ⟨g, cap, he, hbg, hg, hcap⟩ := hrow.form (by simp; omega)
            simp only [Value.slice.injEq, List.length_map] at he
            obtain ⟨rfl, _, rfl⟩ := he
            have HDL := Lib.hid (show Src wc 1 (if c2 = j then some ⟨g, 0, none⟩ else some ⟨g, j, none⟩) (pre.length - j) (List.drop j (List.map ints pre)) by
              have h1 := HDL.out
              have e : (Option.map (fun a : Addr => a.add (j * 1)) (some ⟨g, 0, none⟩)) = some ⟨g, j, none⟩ := by
                by_cases hk : j = 0 <;> simp [Addr.add, hk]
              rw [e] at h1
              exact h1)
            clear own hrow ownc hoT hoD hsrc
            go_wp2_with fail
            go_region_held3 (fun w' => w'.cell? ⟨gl, k, none⟩ = some (.int .i64 y0))
              (exact HKEEP.out _ (by (repeat (first | (with_reducible exact Below.refl _ _) | (with_reducible exact Own.b own3) | (with_reducible exact Own.b own2) | (with_reducible exact Own.b own1) | (with_reducible refine Below.drew ?_) | (with_reducible refine below_alloc ?_ _)))))
              (first
                | (refine Ty.stepAppendOld (w0 := wc) tyInt (by rfl) _ _ (by rfl) (.slice (some ⟨_, 0, none⟩) 0 0) [] (by rfl) (by (repeat (first | (with_reducible assumption) | (with_reducible exact Own.nil (by (repeat (first | (with_reducible exact Below.refl _ _) | (with_reducible exact Own.b own3) | (with_reducible exact Own.b own2) | (with_reducible exact Own.b own1) | (with_reducible refine Below.drew ?_) | (with_reducible refine below_alloc ?_ _)))) _ (by simp)) | (with_reducible refine Own.drew ?_) | (with_reducible refine Own.alloc ?_ _)))) (some ⟨g, 0, none⟩) j _ _ (by rfl) HTL.out HL1.out ?_; intro v1 w1 own1 hg1 hat1)
                | (refine Ty.stepAppend (w0 := wc) tyInt (by rfl) _ _ (by rfl) v1 _ (by rfl) (by (repeat (first | (with_reducible assumption) | (with_reducible exact Own.nil (by (repeat (first | (with_reducible exact Below.refl _ _) | (with_reducible exact Own.b own3) | (with_reducible exact Own.b own2) | (with_reducible exact Own.b own1) | (with_reducible refine Below.drew ?_) | (with_reducible refine below_alloc ?_ _)))) _ (by simp)) | (with_reducible refine Own.drew ?_) | (with_reducible refine Own.alloc ?_ _)))) _ 1 1 [[.int .i64 y0]] (by rfl) (by (repeat (first | (with_reducible assumption) | (with_reducible exact Src.lit _ _ _ _ (by simp) rfl (by simp [Value.oneCell'])) | (with_reducible refine Src.drew ?_) | (with_reducible refine Src.alloc ?_ _) | (with_reducible refine Src.grown ?_ (by with_reducible assumption) (by simp [Value.ownBlock]))))) HL2.out ?_; intro v2 w2 own2 hg2 hat2)
                | (refine Ty.stepAppendOld (w0 := wc) tyInt (by rfl) _ _ (by rfl) v2 _ (by rfl) (by (repeat (first | (with_reducible assumption) | (with_reducible exact Own.nil (by (repeat (first | (with_reducible exact Below.refl _ _) | (with_reducible exact Own.b own3) | (with_reducible exact Own.b own2) | (with_reducible exact Own.b own1) | (with_reducible refine Below.drew ?_) | (with_reducible refine below_alloc ?_ _)))) _ (by simp)) | (with_reducible refine Own.drew ?_) | (with_reducible refine Own.alloc ?_ _)))) _ _ _ _ (by rfl) HDL.out HL3.out ?_; intro v3 w3 own3 hg3 hat3))
            all_goals
              have hfin := HFIN.out w3 v3 own3
              clear own3 own2 own1
              go_wp2
              go_roundw
              case rel => exact ⟨k + 1, by omega, by go_num, by rw [HS.out]; exact hfin.1, hfin.2⟩
              case measure => simp [intOf]; omega
          · obtain rfl : j = pre.length := by omega
            have HDZ := Lib.hid (show ∀ A' : Option Addr, Src wc 1 A' 0 (List.drop pre.length (List.map ints pre)) from fun A' => by
              rw [List.drop_of_length_le (by simp)]
              exact Src.zero _ _ _)
            have HL3 := Lib.hid (show ((([] : List (List Value)) ++ List.take pre.length (List.map ints pre)) ++ [[Value.int .i64 y0]]).length + 0 ≤ 2147483648 by have := HL3.out; omega)
            clear own hrow ownc hoT hoD hsrc
            go_wp2_with fail
            go_region_held3 (fun w' => w'.cell? ⟨gl, k, none⟩ = some (.int .i64 y0))
              (exact HKEEP.out _ (by (repeat (first | (with_reducible exact Below.refl _ _) | (with_reducible exact Own.b own3) | (with_reducible exact Own.b own2) | (with_reducible exact Own.b own1) | (with_reducible refine Below.drew ?_) | (with_reducible refine below_alloc ?_ _)))))
              (first
                | (refine Ty.stepAppendOld (w0 := wc) tyInt (by rfl) _ _ (by rfl) (.slice (some ⟨_, 0, none⟩) 0 0) [] (by rfl) (by (repeat (first | (with_reducible assumption) | (with_reducible exact Own.nil (by (repeat (first | (with_reducible exact Below.refl _ _) | (with_reducible exact Own.b own3) | (with_reducible exact Own.b own2) | (with_reducible exact Own.b own1) | (with_reducible refine Below.drew ?_) | (with_reducible refine below_alloc ?_ _)))) _ (by simp)) | (with_reducible refine Own.drew ?_) | (with_reducible refine Own.alloc ?_ _)))) A2 pre.length _ _ (by rfl) HTL.out HL1.out ?_; intro v1 w1 own1 hg1 hat1)
                | (refine Ty.stepAppend (w0 := wc) tyInt (by rfl) _ _ (by rfl) v1 _ (by rfl) (by (repeat (first | (with_reducible assumption) | (with_reducible exact Own.nil (by (repeat (first | (with_reducible exact Below.refl _ _) | (with_reducible exact Own.b own3) | (with_reducible exact Own.b own2) | (with_reducible exact Own.b own1) | (with_reducible refine Below.drew ?_) | (with_reducible refine below_alloc ?_ _)))) _ (by simp)) | (with_reducible refine Own.drew ?_) | (with_reducible refine Own.alloc ?_ _)))) _ 1 1 [[.int .i64 y0]] (by rfl) (by (repeat (first | (with_reducible assumption) | (with_reducible exact Src.lit _ _ _ _ (by simp) rfl (by simp [Value.oneCell'])) | (with_reducible refine Src.drew ?_) | (with_reducible refine Src.alloc ?_ _) | (with_reducible refine Src.grown ?_ (by with_reducible assumption) (by simp [Value.ownBlock]))))) HL2.out ?_; intro v2 w2 own2 hg2 hat2)
                | (refine Ty.stepAppendOld (w0 := wc) tyInt (by rfl) _ _ (by rfl) v2 _ (by rfl) (by (repeat (first | (with_reducible assumption) | (with_reducible exact Own.nil (by (repeat (first | (with_reducible exact Below.refl _ _) | (with_reducible exact Own.b own3) | (with_reducible exact Own.b own2) | (with_reducible exact Own.b own1) | (with_reducible refine Below.drew ?_) | (with_reducible refine below_alloc ?_ _)))) _ (by simp)) | (with_reducible refine Own.drew ?_) | (with_reducible refine Own.alloc ?_ _)))) _ 0 _ _ (by rfl) (HDZ.out _) HL3.out ?_; intro v3 w3 own3 hg3 hat3))
            all_goals
              have hfin := HFIN.out w3 v3 own3
              clear own3 own2 own1
              go_wp2
              go_roundw
              case rel => exact ⟨k + 1, by omega, by go_num, by rw [HS.out]; exact hfin.1, hfin.2⟩
              case measure => simp [intOf]; omega
      · go_wp2
        go_meet
        obtain rfl : k = l.length := by omega
        rw [List.take_length] at own
        exact own
  case rest =>
    have own := hcut
    rw [← HLE.out] at own
    have HOW := Lib.hid own
    clear hcut own
    go_wp2
    go_ret2
    exact ⟨_, rfl, HOW.out.1, HOW.out.2⟩
end Go.Proofs.Ythhlfkeikcmnlaa
