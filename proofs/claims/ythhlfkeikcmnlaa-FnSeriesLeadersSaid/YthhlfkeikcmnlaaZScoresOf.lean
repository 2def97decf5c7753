/- The walks of the scores of a runner, of the program and of the reference. No condition. -/
import Derived.Test.YthhlfkeikcmnlaaZScoreL
import Derived.Test.YthhlfkeikcmnlaaZScoreT
import Derived.Test.YthhlfkeikcmnlaaZSerQ
import Derived.Deep.DeepCutAuto
import Derived.Deep.CutBlock
namespace Go.Proofs.Ythhlfkeikcmnlaa
open Go Go.RowKit

theorem notOf_any (s : Score) (r : Int) (b : Nat) (w : World) (hc : w.cell? ⟨b, 0, none⟩ = some (.int .i64 r)) :
    Calls Try.prog 91 #[s.val, .pointer (some ⟨b, 0, none⟩)] w fun e w' => e = .returned (.bool (s.runner != r)) ∧ Below w.heap.size w w' := by
  obtain ⟨x, y, z⟩ := s
  have hlt := block_lt_of_cell hc
  simp only at hlt
  show Calls Try.prog 91 #[.agg #[.int .i64 x, .int .i64 y, .int .i64 z], .pointer (some ⟨b, 0, none⟩)] w _
  have hcw : (w.alloc (.cells #[.int .i64 x, .int .i64 y, .int .i64 z] 33)).cell? ⟨b, 0, none⟩ = some (.int .i64 r) := After.keep hc ⟨_, below_alloc (Below.refl _ _) _⟩
  go_enter Try.func91, Try.ntmps91
  go_wp2
  go_ret
  exact ⟨rfl, by (repeat (first | exact Below.refl _ _ | assumption | refine Below.drew ?_ | refine Below.alloc ?_ (by first | exact Nat.le_refl _ | (simp; done) | (simp; omega)) _))⟩
theorem byPoints_any (p q : Score) (w : World) :
    Calls Try.prog 93 #[p.val, q.val] w fun e w' => e = .returned (.int .i64 (cmpI q.points p.points)) ∧ Below w.heap.size w w' := by
  obtain ⟨a, b, c⟩ := p
  obtain ⟨a', b', c'⟩ := q
  show Calls Try.prog 93 #[.agg #[.int .i64 a, .int .i64 b, .int .i64 c], .agg #[.int .i64 a', .int .i64 b', .int .i64 c']] w _
  go_enter Try.func93, Try.ntmps93
  go_wp2_with (go_at_call 87; refine (compare_any _ _ _).mono ?_; rintro e w' ⟨rfl, rfl⟩)
  go_ret
  exact ⟨rfl, by (repeat (first | exact Below.refl _ _ | assumption | refine Below.drew ?_ | refine Below.alloc ?_ (by first | exact Nat.le_refl _ | (simp; done) | (simp; omega)) _))⟩
theorem ltC_points : ltC (fun p q : Score => cmpI q.points p.points) = ltP := by
  funext p q
  unfold ltC ltP cmpI
  by_cases h : q.points < p.points
  · simp [h]
  · simp only [h, if_false]
    by_cases h2 : p.points < q.points <;> simp [h2]

set_option maxHeartbeats 1000000 in
theorem scoresOf_any (xs : List Score) (r : Int) (v : Value) (w : World) (h : Sl (Flat Score.lst) 3 w v xs) (hn : xs.length ≤ 1048577) (h20 : (ownS xs r).length ≤ 20) :
    Calls Try.prog 64 #[v, .int .i64 r] w fun e w' => ∃ o, e = .returned o ∧ Row w.heap.size 33 3 w' o ((ofS xs r).map Score.lst) ∧ Below w.heap.size w w' := by
  have hW : Below w.heap.size w (w.alloc (.cells #[.int .i64 r] 3)) := by (repeat (first | exact Below.refl _ _ | assumption | refine Below.drew ?_ | refine Below.alloc ?_ (by first | exact Nat.le_refl _ | (simp; done) | (simp; omega)) _))
  have hc0 : (w.alloc (.cells #[.int .i64 r] 3)).cell? ⟨w.heap.size, 0, none⟩ = some (.int .i64 r) := rangeAt_new w [.int .i64 r] 3 0 _ rfl
  have HO := Lib.hid (show xs.filter (fun x => !(x.runner != r)) = ownS xs r by unfold ownS; congr 1; funext x; simp [bne])
  have H20 := Lib.hid h20
  clear h20
  go_enter Try.func64, Try.ntmps64
  go_wp2_with fail
  generalize w.alloc (.cells #[.int .i64 r] 3) = W at hW hc0 ⊢
  refine (clone_Score xs v W (h.below (Flat.keeps _) hW) hn).mono ?_
  rintro e w1 ⟨o1, rfl, row1, hb1⟩
  have hB1 := step_ hW (Nat.le_refl _) hb1
  have hlt := block_lt_of_cell hc0
  simp only at hlt
  have hne : o1.ownBlock ≠ some w.heap.size := fun e => by have := (row1.lt _ e).1; omega
  have hk1 := After.keep hc0 ⟨w1, hb1⟩
  simp only at hk1
  go_wp2_with fail
  refine (deleteFunc_91 _ (fun s => s.runner != r) xs o1 W.heap.size w1 row1 hn (fun W' x _ hg => notOf_any x r w.heap.size W' (hg.cell_far_ hk1 hne))).mono ?_
  rintro e w2 ⟨o2, rfl, row2, hg2, ho2⟩
  rw [HO.out] at row2
  have hB2 := hB1.grown hg2 hB1.size (fun q hq => Nat.le_trans hW.size (row1.lt q hq).1)
  go_wp2_with fail
  refine (sortStable_93 _ W.heap.size o2 (ownS xs r) w2 row2 H20.out (fun W' x y _ _ _ => byPoints_any x y W')).mono ?_
  rintro e w3 ⟨rfl, row3, hg3⟩
  rw [ltC_points] at row3
  have hB3 := hB2.grown hg3 hB2.size (fun q hq => Nat.le_trans hW.size (row2.lt q hq).1)
  go_wp2
  go_ret
  exact ⟨_, rfl, row3.mono hW.size, hB3⟩

theorem ofS_take (xs : List Score) (r : Int) (k : Nat) (h : k < xs.length) : ofS (xs.take (k + 1)) r = if xs[k].runner = r then putIn ltP (ofS (xs.take k) r) xs[k] else ofS (xs.take k) r := by
  unfold ofS ownS
  rw [List.take_succ_eq_append_getElem h, List.filter_append]
  by_cases e : xs[k].runner = r
  · rw [if_pos e]
    have : [xs[k]].filter (fun s => s.runner == r) = [xs[k]] := by simp [e]
    rw [this, putAll_append]
    rfl
  · rw [if_neg e]
    have : [xs[k]].filter (fun s => s.runner == r) = [] := by simp [e]
    rw [this, List.append_nil]
theorem ofS_len (xs : List Score) (r : Int) : (ofS xs r).length ≤ xs.length := by
  unfold ofS ownS
  rw [putAll_len]
  exact List.length_filter_le _ _

set_option maxRecDepth 100000 in
set_option maxHeartbeats 4000000 in
theorem l20Of_any (xs : List Score) (r : Int) (v : Value) (w : World) (h : Sl (Flat Score.lst) 3 w v xs) (hn : xs.length ≤ 1048577) :
    Calls Try.prog 76 #[v, .int .i64 r] w fun e w' => ∃ o, e = .returned o ∧ Row w.heap.size 33 3 w' o ((ofS xs r).map Score.lst) ∧ Below w.heap.size w w' := by
  obtain ⟨A, c, rfl, hc, hm, hk⟩ := h.open_
  go_enter Try.func76, Try.ntmps76
  go_wp2
  go_loopw [5, 6] (fun o i wr => ∃ k : Nat, k ≤ xs.length ∧ i = .int .i64 k ∧ Own w 33 3 wr o ((ofS (xs.take k) r).map Score.lst))
    (fun _ i _ => xs.length - (intOf i).toNat)
  case atStart => exact ⟨0, Nat.zero_le _, rfl, Own.nil (Below.refl _ _) _ rfl⟩
  case round =>
    obtain ⟨k, hkl, rfl, own⟩ := hrel
    by_cases hlt : k < xs.length
    · obtain ⟨b, off, rfl, hat⟩ := flat_at hk (by omega)
      have hcs := Score.cells (rangeAt_below (hat k hlt) own.b)
      have HR := Lib.hid (rangeAt_below (hat k hlt) own.b)
      have HS := Lib.hid (ofS_take xs r k hlt)
      clear hat hk h
      by_cases hr : xs[k].runner = r
      · have hr' : (xs[k].runner != r) = false := by simpa using hr
        have HRR := Lib.hid hr
        clear hr
        obtain ⟨pre, hpre⟩ : ∃ pre, pre = ofS (xs.take k) r := ⟨_, rfl⟩
        have hpl : pre.length ≤ 1048577 := by rw [hpre]; have := ofS_len (xs.take k) r; simp at this; omega
        rw [← hpre] at own HS
        have hs1 := HS.out
        rw [if_pos HRR.out] at hs1
        have HS1 := Lib.hid hs1
        clear hs1 hpre HS
        obtain ⟨x, hx⟩ : ∃ x, x = xs[k] := ⟨_, rfl⟩
        rw [← hx] at hcs HR HS1 hr'
        obtain ⟨A2, c2, rfl, hc2, hm2⟩ := own.1.parts
        simp only [List.length_map] at own hc2 ⊢
        have hrow := own.1
        have HX := Lib.hid hx
        clear hx
        obtain ⟨wo, rfl⟩ : ∃ wo : World, wo = wr := ⟨_, rfl⟩
        go_upto_block 2 with fail
        go_cut [7] (fun kv wx => ∃ j : Nat, j = placeIn ltP pre x pre.length ∧ j ≤ pre.length ∧ kv = .int .i64 j ∧ Below wo.heap.size wo wx)
        case first =>
          go_wp2_with fail
          go_loopw [7] (fun jv wi => ∃ j : Nat, j ≤ pre.length ∧ jv = .int .i64 j ∧ Hid (∀ p (h : p < pre.length), j ≤ p → ltP x pre[p] = true) ∧ Below wo.heap.size wo wi)
            (fun jv _ => (intOf jv).toNat)
          case atStart => exact ⟨pre.length, Nat.le_refl _, rfl, fun p h hp => absurd h (by omega), Below.refl _ _⟩
          case round =>
            obtain ⟨j, hjl, rfl, HP, hb⟩ := hrel
            have hx1 := Score.cellsOld (rangeAt_below HR.out hb)
            by_cases h0 : 0 < j
            · obtain ⟨g, cap, he, hbg, hg, hcap⟩ := hrow.form (by simp; omega)
              simp only [Value.slice.injEq] at he
              obtain ⟨rfl, hq, rfl⟩ := he
              clear hq
              have hjp : j - 1 < pre.length := by omega
              have hr1 := hrow.range (k := j - 1) (by simpa using hjp)
              rw [List.getElem_map] at hr1
              obtain ⟨y, hy⟩ : ∃ y, y = pre[j - 1] := ⟨_, rfl⟩
              rw [← hy] at hr1
              have hy1 := Score.cellsOld (rangeAt_below hr1 hb)
              have HY := Lib.hid hy
              have hz1 : (0 : Int) ≤ (j : Int) - 1 := by omega
              have hz2 : (j : Int) - 1 < (pre.length : Int) := by omega
              have h0' : decide (0 < j) = true := by simpa using h0
              clear hy hr1
              go_wp2
              refine region_after (by kernel_rfl) (by kernel_rfl) ?_
              repeat (any_goals (first | go_big_quiet_step (fail)  | quiet_step (fail) | (refine wpQuiet_step (fun K hK => ?_); go_simp; split <;> (refine hK _ ?_; clear hK K))))
              all_goals (refine wpQuiet_nil ?_; intro s)
              all_goals go_wp2
              all_goals first
                | (go_meet
                   exact ⟨j, (placeIn_is ltP hjl HP.out (.inr ⟨hjp, by rw [← HY.out]; simp [ltP]; omega⟩)).symm, hjl, rfl, step_ hb (Nat.le_refl _) s.hb⟩)
                | (go_roundw
                   case rel => exact ⟨j - 1, by omega, by congr 1; omega, fun p h hp => by
                     by_cases e : p = j - 1
                     · subst e; rw [← HY.out]; simp [ltP]; omega
                     · exact HP.out p h (by omega), step_ hb (Nat.le_refl _) s.hb⟩
                   case measure => simp [intOf]; omega)
            · obtain rfl : j = 0 := by omega
              go_wp2
              refine region_after (by kernel_rfl) (by kernel_rfl) ?_
              repeat (any_goals (first | go_big_quiet_step (fail)  | quiet_step (fail) | (refine wpQuiet_step (fun K hK => ?_); go_simp; split <;> (refine hK _ ?_; clear hK K))))
              all_goals (refine wpQuiet_nil ?_; intro s)
              all_goals go_wp2
              go_meet
              exact ⟨0, (placeIn_is ltP (Nat.zero_le _) HP.out (.inl rfl)).symm, Nat.zero_le _, rfl, step_ hb (Nat.le_refl _) s.hb⟩
        case rest =>
          obtain ⟨j, hj, hjl, rfl, hb⟩ := hcut
          have HJ := Lib.hid hj
          clear hj
          have ownc := own.below hb
          have hsrc := Row.src ownc.1 Score.lst_len Score.one
          have hoT := hsrc.take hjl
          have HJL := Lib.hid hjl
          have HKEEP := Lib.hid (show ∀ W', Below wc.heap.size wc W' → W'.cell? ⟨b, off + k * 3, none⟩ = some (.int .i64 x.runner) ∧ W'.cell? ⟨b, off + k * 3 + 1, none⟩ = some (.int .i64 x.race) ∧ W'.cell? ⟨b, off + k * 3 + 2, none⟩ = some (.int .i64 x.points) from fun W' hW' => Score.cells (rangeAt_below (rangeAt_below HR.out hb) hW'))
          have hcb := HKEEP.out wc (Below.refl _ _)
          have HL1 := Lib.hid (show ([] : List (List Value)).length + j ≤ 2147483648 by simp; omega)
          have HL2 := Lib.hid (show (([] : List (List Value)) ++ List.take j (List.map Score.lst pre)).length + 1 ≤ 2147483648 by rw [List.nil_append, List.length_take, List.length_map, Nat.min_eq_left hjl]; omega)
          have HL3 := Lib.hid (show ((([] : List (List Value)) ++ List.take j (List.map Score.lst pre)) ++ [[Value.int .i64 x.runner, .int .i64 x.race, .int .i64 x.points]]).length + (pre.length - j) ≤ 2147483648 by rw [List.nil_append, List.length_append, List.length_take, List.length_map, Nat.min_eq_left hjl]; simp; omega)
          have hk0 : (0 : Int) ≤ (j : Int) := by omega
          have hk1 : (j : Int) ≤ (pre.length : Int) := by omega
          have hk2 : (j : Int) ≤ (c2 : Int) := by omega
          have hoD := Src.cut hsrc HJL.out hc2
          go_wp2_with fail
          go_region_held3 (fun w' => w'.cell? ⟨b, off + k * 3, none⟩ = some (.int .i64 x.runner) ∧ w'.cell? ⟨b, off + k * 3 + 1, none⟩ = some (.int .i64 x.race) ∧ w'.cell? ⟨b, off + k * 3 + 2, none⟩ = some (.int .i64 x.points))
            (exact HKEEP.out _ (by (repeat (first | (with_reducible exact Below.refl _ _) | (with_reducible exact Own.b own3) | (with_reducible exact Own.b own2) | (with_reducible exact Own.b own1) | (with_reducible refine Below.drew ?_) | (with_reducible refine below_alloc ?_ _)))))
            (first
              | (refine Ty.stepAppendOld (w0 := wc) tyScore (by rfl) _ _ (by rfl) (.slice (some ⟨_, 0, none⟩) 0 0) [] (by rfl) (by (repeat (first | (with_reducible assumption) | (with_reducible exact Own.nil (by (repeat (first | (with_reducible exact Below.refl _ _) | (with_reducible exact Own.b own3) | (with_reducible exact Own.b own2) | (with_reducible exact Own.b own1) | (with_reducible refine Below.drew ?_) | (with_reducible refine below_alloc ?_ _)))) _ (by simp)) | (with_reducible refine Own.drew ?_) | (with_reducible refine Own.alloc ?_ _)))) A2 j _ _ (by rfl) hoT HL1.out ?_; intro v1 w1 own1 hg1 hat1)
              | (refine Ty.stepAppend (w0 := wc) tyScore (by rfl) _ _ (by rfl) v1 _ (by rfl) (by (repeat (first | (with_reducible assumption) | (with_reducible exact Own.nil (by (repeat (first | (with_reducible exact Below.refl _ _) | (with_reducible exact Own.b own3) | (with_reducible exact Own.b own2) | (with_reducible exact Own.b own1) | (with_reducible refine Below.drew ?_) | (with_reducible refine below_alloc ?_ _)))) _ (by simp)) | (with_reducible refine Own.drew ?_) | (with_reducible refine Own.alloc ?_ _)))) _ 1 1 [[.int .i64 x.runner, .int .i64 x.race, .int .i64 x.points]] (by rfl) (by (repeat (first | (with_reducible assumption) | (with_reducible exact Src.lit _ _ _ _ (by simp) rfl (by simp [Value.oneCell'])) | (with_reducible refine Src.drew ?_) | (with_reducible refine Src.alloc ?_ _) | (with_reducible refine Src.grown ?_ (by with_reducible assumption) (by simp [Value.ownBlock]))))) HL2.out ?_; intro v2 w2 own2 hg2 hat2)
              | (refine Ty.stepAppendOld (w0 := wc) tyScore (by rfl) _ _ (by rfl) v2 _ (by rfl) (by (repeat (first | (with_reducible assumption) | (with_reducible exact Own.nil (by (repeat (first | (with_reducible exact Below.refl _ _) | (with_reducible exact Own.b own3) | (with_reducible exact Own.b own2) | (with_reducible exact Own.b own1) | (with_reducible refine Below.drew ?_) | (with_reducible refine below_alloc ?_ _)))) _ (by simp)) | (with_reducible refine Own.drew ?_) | (with_reducible refine Own.alloc ?_ _)))) _ _ _ _ (by rfl) hoD HL3.out ?_; intro v3 w3 own3 hg3 hat3))
          all_goals
            have hown : Own w 33 3 w3 v3 ((putIn ltP pre x).map Score.lst) := by
              refine ⟨?_, step_ ownc.2 (Nat.le_refl _) own3.2⟩
              have := own3.1.mono ownc.2.size
              simpa [putIn, ← HJ.out, Score.lst] using this
            clear own3 own2 own1
            go_wp2
            go_roundw
            case rel => exact ⟨k + 1, by omega, by go_num, by rw [HS1.out]; exact hown⟩
            case measure => simp [intOf]; omega
      · have hr' : (xs[k].runner != r) = true := by simpa using hr
        have HRR := Lib.hid hr
        clear hr
        go_wp2
        go_roundw
        case rel => exact ⟨k + 1, by omega, by go_num, by rw [HS.out, if_neg HRR.out]; exact own⟩
        case measure => simp [intOf]; omega
    · go_wp2
      go_ret
      obtain rfl : k = xs.length := by omega
      rw [List.take_length] at own
      exact ⟨_, rfl, own.1, own.2⟩
end Go.Proofs.Ythhlfkeikcmnlaa
