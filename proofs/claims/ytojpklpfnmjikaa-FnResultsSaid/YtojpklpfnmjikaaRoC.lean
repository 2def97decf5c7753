/- ResultOrder, the reference's. No condition. -/
import Derived.Test.YtojpklpfnmjikaaRoB
import Derived.Deep.DeepCutAuto
import Derived.Deep.CutBlock
namespace Go.Proofs.Ytojpklpfnmjikaa
open Go Go.RowKit

abbrev ltRun (cs : List Int) (limit : Int) : Run → Run → Bool := ltC fun a b : Run => cmpR cs limit a.k b.k
theorem ordX_take (cs : List Int) (limit : Int) (xs : List Run) (k : Nat) (h : k < xs.length) : ordX cs limit (xs.take (k + 1)) = putIn (ltRun cs limit) (ordX cs limit (xs.take k)) xs[k] := putAll_take _ xs k h
theorem ordX_mem {cs : List Int} {limit : Int} {xs : List Run} : ∀ x ∈ ordX cs limit xs, x ∈ xs := fun _ h => (putAll_perm _ _).mem_iff.1 h

set_option maxRecDepth 100000 in
set_option maxHeartbeats 8000000 in
theorem spec_ResultOrder (xs : List Run) (ks : List RunK) (v : Value) (cs : List Int) (u : Value) (limit : Int) (w : World) (hks : xs.map Run.k = ks) (h : RunS w v xs) (hs : Sl (Flat ints) 1 w u cs) (_ : ∀ x ∈ cs, I64 x) (_ : I64 limit) :
    Calls Try.prog 39 #[v, u, .int .i64 limit] w fun e w' => ∃ r, e = .returned (.tuple #[r, .bool (askR ks cs limit)]) ∧ Row w.heap.size 3 1 w' r ((roV ks cs limit).map ints) ∧ Below w.heap.size w w' := by
  subst hks
  have own0 : Own w 3 1 (w.alloc (.cells #[] 3)) (.slice (some ⟨w.heap.size, 0, none⟩) 0 0) [] := Own.nil (Below.refl _ _) _ rfl
  have HAS := Lib.hid (l15Asked_any xs cs limit v u _ (h.below own0.2) (hs.below (Flat.keeps _) own0.2))
  by_cases ha : askR (xs.map Run.k) cs limit = true
  rotate_left
  · have ha' : askR (xs.map Run.k) cs limit = false := by simpa using ha
    have HV := Lib.hid (roV_no ha')
    rw [ha'] at HAS ⊢
    rw [HV.out]
    have HO := Lib.hid own0
    clear ha ha' h hs own0
    go_enter Try.func39, Try.ntmps39
    go_wp2_with (go_at_call 62; refine HAS.out.mono ?_; rintro e w1 ⟨rfl, hb1⟩)
    go_ret2
    have := HO.out.below hb1
    exact ⟨_, rfl, this.1, this.2⟩
  obtain ⟨hg, hco, hl1, hl2⟩ := askR_parts ha
  have hlen := codesOk_len hco
  have hxl := goodRs_len hg
  have HOK := Lib.hid (goodRs_ok hg)
  have HV := Lib.hid (roV_yes ha)
  have HSS := Lib.hid hs
  have HI := Lib.hid h.2
  have HLT := Lib.hid (show ∀ i k (hi : i < xs.length) (hk : k < xs.length), i < k → xs[i].runner < xs[k].runner from fun i k hi hk hik => by
    have := List.pairwise_iff_getElem.1 (runs_lt hg) i k (by simpa using hi) (by simpa using hk) hik
    simp only [List.getElem_map] at this
    exact this)
  obtain ⟨A, c, rfl, hc, hm, hk⟩ := h.1.open_
  have HK := Lib.hid hk
  have HO := Lib.hid own0
  rw [ha] at HAS ⊢
  rw [HV.out]
  clear ha h hs hg hco hk own0 HV
  go_enter Try.func39, Try.ntmps39
  go_upto_block 0 with (go_at_call 62; refine HAS.out.mono ?_; rintro e w1 ⟨rfl, hb1⟩)
  have HO1 := Lib.hid (HO.out.below hb1)
  have HA1 := Lib.hid (show Own w 53 7 (w1.alloc (.cells #[] 53)) (.slice (some ⟨w1.heap.size, 0, none⟩) 0 0) [] from Own.nil HO1.out.2 _ rfl)
  have hsz1 : (w1.alloc (.cells #[] 53)).heap.size = w1.heap.size + 1 := by simp
  have HSZ := Lib.hid (show w.heap.size < w1.heap.size by have := hb1.size; simp at this; omega)
  have HOW := Lib.hid (HO1.out.alloc (.cells #[] 53))
  generalize w1.alloc (.cells #[] 53) = W at HA1 hsz1 HOW ⊢
  clear hb1
  go_cut [9] (fun ov wx => Own w 53 7 wx ov ((ordX cs limit xs).map Run.lst) ∧ Below W.heap.size W wx ∧ Hid (ov.ownBlock ≠ some w.heap.size))
  case first =>
    go_wp2_with fail
    go_loopw [9, 10] (fun o i wr => ∃ k : Nat, k ≤ xs.length ∧ i = .int .i64 k ∧ Own w 53 7 wr o ((ordX cs limit (xs.take k)).map Run.lst) ∧ Hid (Below W.heap.size W wr) ∧ Hid (o.ownBlock ≠ some w.heap.size))
      (fun _ i _ => xs.length - (intOf i).toNat)
    case atStart => exact ⟨0, Nat.zero_le _, rfl, HA1.out, Below.refl _ _, by show Value.ownBlock _ ≠ _; simp only [Value.ownBlock]; intro e; have := HSZ.out; simp at e; omega⟩
    case round =>
      clear HA1 HO1 HO
      obtain ⟨k, hkl, rfl, own, HBW, HNE⟩ := hrel
      by_cases hlt : k < xs.length
      · obtain ⟨b, off, rfl, hat⟩ := flat_at HK.out (by omega)
        have HR := Lib.hid (rangeAt_below (hat k hlt) own.b)
        have HS := Lib.hid (ordX_take cs limit xs k hlt)
        have HXI := Lib.hid ((HI.out _ (List.getElem_mem hlt)).below own.b)
        have HXO := Lib.hid (HOK.out _ (List.getElem_mem hlt))
        have HPI := Lib.hid (show ∀ p ∈ ordX cs limit (xs.take k), p.card.In wr ∧ runOk p.k = true ∧ p.runner < xs[k].runner from fun p hp => by
          have h1 := ordX_mem p hp
          obtain ⟨q, hq, rfl⟩ := List.getElem_of_mem h1
          rw [List.length_take] at hq
          rw [List.getElem_take]
          have h2 := List.getElem_mem (l := xs) (n := q) (by omega)
          exact ⟨(HI.out _ h2).below own.b, HOK.out _ h2, HLT.out q k (by omega) hlt (by omega)⟩)
        obtain ⟨x, hx⟩ : ∃ x, x = xs[k] := ⟨_, rfl⟩
        rw [← hx] at HR HS HXI HXO HPI
        obtain ⟨pre, hpre⟩ : ∃ pre, pre = ordX cs limit (xs.take k) := ⟨_, rfl⟩
        have hpl : pre.length ≤ 10 := by rw [hpre]; have := ordX_len cs limit (xs.take k); simp at this; omega
        rw [← hpre] at own HS HPI
        clear hat hx hpre
        obtain ⟨A2, c2, rfl, hc2, hm2⟩ := own.1.parts
        simp only [List.length_map] at own hc2 HNE ⊢
        have hrow := own.1
        obtain ⟨wo, rfl⟩ : ∃ wo : World, wo = wr := ⟨_, rfl⟩
        go_upto_block 2 with fail
        go_cut [11] (fun kv wx => ∃ j : Nat, j = placeIn (ltRun cs limit) pre x pre.length ∧ j ≤ pre.length ∧ kv = .int .i64 j ∧ Below wo.heap.size wo wx)
        case first =>
          go_wp2_with fail
          go_loopw [11] (fun jv wi => ∃ j : Nat, j ≤ pre.length ∧ jv = .int .i64 j ∧ Hid (∀ p (h : p < pre.length), j ≤ p → ltRun cs limit x pre[p] = true) ∧ Below wo.heap.size wo wi)
            (fun jv _ => (intOf jv).toNat)
          case atStart => exact ⟨pre.length, Nat.le_refl _, rfl, fun p h hp => absurd h (by omega), Below.refl _ _⟩
          case round =>
            obtain ⟨j, hjl, rfl, HP, hb⟩ := hrel
            have hxr := rangeAt_below HR.out hb
            by_cases h0 : 0 < j
            · obtain ⟨g, cap, he, hbg, hg, hcap⟩ := hrow.form (by simp; omega)
              simp only [Value.slice.injEq] at he
              obtain ⟨rfl, hq, rfl⟩ := he
              clear hq
              have hjp : j - 1 < pre.length := by omega
              have hr1 := hrow.range (k := j - 1) (by simpa using hjp)
              rw [List.getElem_map] at hr1
              have hyi := HPI.out _ (List.getElem_mem hjp)
              obtain ⟨y, hy⟩ : ∃ y, y = pre[j - 1] := ⟨_, rfl⟩
              rw [← hy] at hr1 hyi
              have hyr := rangeAt_below hr1 hb
              have HY := Lib.hid hy
              obtain ⟨t, ht⟩ : ∃ t, t = ltRun cs limit x y := ⟨_, rfl⟩
              have HT := Lib.hid ht
              have HC := Lib.hid (show ∀ s : After wr, Calls Try.prog 77 #[.agg #[.int .i64 x.runner, .bool x.started, .bool x.out, .int .i64 x.card.k.number, .int .i64 x.card.k.start, .int .i64 x.card.k.finish, .slice x.card.a x.card.n x.card.c], .agg #[.int .i64 y.runner, .bool y.started, .bool y.out, .int .i64 y.card.k.number, .int .i64 y.card.k.start, .int .i64 y.card.k.finish, .slice y.card.a y.card.n y.card.c], u, .int .i64 limit] s.w' fun e w' => e = .returned (.bool t) ∧ Below s.w'.heap.size s.w' w' from fun s => by
                have hB := step_ own.2 (Nat.le_refl _) (step_ hb (Nat.le_refl _) s.hb)
                have := l15Before_any x y cs u limit s.w' (HSS.out.below (Flat.keeps _) hB) (by omega) (HXI.out.below (step_ hb (Nat.le_refl _) s.hb)) (hyi.1.below (step_ hb (Nat.le_refl _) s.hb)) HXO.out hyi.2.1
                rw [befR_cmp hyi.2.2] at this
                rw [ht]
                exact this)
              have hz1 : (0 : Int) ≤ (j : Int) - 1 := by omega
              have hz2 : (j : Int) - 1 < (pre.length : Int) := by omega
              have h0' : decide (0 < j) = true := by simpa using h0
              have HB := Lib.hid hb
              clear hy hr1 hyi hb ht
              cases t with
              | false =>
                go_wp2
                refine region_after (by kernel_rfl) (by kernel_rfl) ?_
                repeat (any_goals (first | go_big_quiet_step ((go_at_call 77; exact Calls.after (v := .bool false) _ (HC.out _))) | (refine Run.qloadImpl rfl _ rfl g ((j - 1) * 7) rfl y hyr ?_) | (refine Run.qloadImpl rfl _ rfl b (off + k * 7) rfl x hxr ?_) | quiet_step ((go_at_call 77; exact Calls.after (v := .bool false) _ (HC.out _))) | (refine wpQuiet_step (fun K hK => ?_); go_simp; split <;> (refine hK _ ?_; clear hK K))))
                all_goals (refine wpQuiet_nil ?_; intro s)
                all_goals go_wp2
                go_meet
                exact ⟨j, (placeIn_is (ltRun cs limit) hjl HP.out (.inr ⟨hjp, by rw [← HY.out]; exact HT.out.symm⟩)).symm, hjl, rfl, step_ HB.out (Nat.le_refl _) s.hb⟩
              | true =>
                go_wp2
                refine region_after (by kernel_rfl) (by kernel_rfl) ?_
                repeat (any_goals (first | go_big_quiet_step ((go_at_call 77; exact Calls.after (v := .bool true) _ (HC.out _))) | (refine Run.qloadImpl rfl _ rfl g ((j - 1) * 7) rfl y hyr ?_) | (refine Run.qloadImpl rfl _ rfl b (off + k * 7) rfl x hxr ?_) | quiet_step ((go_at_call 77; exact Calls.after (v := .bool true) _ (HC.out _))) | (refine wpQuiet_step (fun K hK => ?_); go_simp; split <;> (refine hK _ ?_; clear hK K))))
                all_goals (refine wpQuiet_nil ?_; intro s)
                all_goals go_wp2
                go_roundw
                case rel => exact ⟨j - 1, by omega, by congr 1; omega, fun p h hp => by
                  by_cases e : p = j - 1
                  · subst e; rw [← HY.out]; exact HT.out.symm
                  · exact HP.out p h (by omega), step_ HB.out (Nat.le_refl _) s.hb⟩
                case measure => simp [intOf]; omega
            · obtain rfl : j = 0 := by omega
              go_wp2
              refine region_after (by kernel_rfl) (by kernel_rfl) ?_
              repeat (any_goals (first | go_big_quiet_step (fail)  | quiet_step (fail) | (refine wpQuiet_step (fun K hK => ?_); go_simp; split <;> (refine hK _ ?_; clear hK K))))
              all_goals (refine wpQuiet_nil ?_; intro s)
              all_goals go_wp2
              go_meet
              exact ⟨0, (placeIn_is (ltRun cs limit) (Nat.zero_le _) HP.out (.inl rfl)).symm, Nat.zero_le _, rfl, step_ hb (Nat.le_refl _) s.hb⟩
        case rest =>
          obtain ⟨j, hj, hjl, rfl, hb⟩ := hcut
          have HJ := Lib.hid hj
          clear hj
          have ownc := own.below hb
          have hsrc := Row.src ownc.1 Run.lst_len Run.one
          have hoT := hsrc.take hjl
          have HJL := Lib.hid hjl
          have HXR := Lib.hid (rangeAt_below HR.out hb)
          have HL1 := Lib.hid (show ([] : List (List Value)).length + j ≤ 2147483648 by simp; omega)
          have HL2 := Lib.hid (show (([] : List (List Value)) ++ List.take j (List.map Run.lst pre)).length + 1 ≤ 2147483648 by rw [List.nil_append, List.length_take, List.length_map, Nat.min_eq_left hjl]; omega)
          have HL3 := Lib.hid (show ((([] : List (List Value)) ++ List.take j (List.map Run.lst pre)) ++ [[Value.int .i64 x.runner, .bool x.started, .bool x.out, .int .i64 x.card.k.number, .int .i64 x.card.k.start, .int .i64 x.card.k.finish, .slice x.card.a x.card.n x.card.c]]).length + (pre.length - j) ≤ 2147483648 by rw [List.nil_append, List.length_append, List.length_take, List.length_map, Nat.min_eq_left hjl]; simp; omega)
          have hk0 : (0 : Int) ≤ (j : Int) := by omega
          have hk1 : (j : Int) ≤ (pre.length : Int) := by omega
          have hk2 : (j : Int) ≤ (c2 : Int) := by omega
          have hoD := Src.cut hsrc HJL.out hc2
          have HKEEP := Lib.hid (show ∀ W', Below wc.heap.size wc W' → _ from fun W' hW' => Run.cells (rangeAt_below HXR.out hW'))
          have hcb := HKEEP.out wc (Below.refl _ _)
          go_wp2_with fail
          go_region_held3 (fun w' => w'.cell? ⟨b, off + k * 7, none⟩ = some (.int .i64 x.runner) ∧ w'.cell? ⟨b, off + k * 7 + 1, none⟩ = some (.bool x.started) ∧ w'.cell? ⟨b, off + k * 7 + 2, none⟩ = some (.bool x.out) ∧ w'.cell? ⟨b, off + k * 7 + 3, none⟩ = some (.int .i64 x.card.k.number) ∧ w'.cell? ⟨b, off + k * 7 + 4, none⟩ = some (.int .i64 x.card.k.start) ∧ w'.cell? ⟨b, off + k * 7 + 5, none⟩ = some (.int .i64 x.card.k.finish) ∧ w'.cell? ⟨b, off + k * 7 + 6, none⟩ = some (.slice x.card.a x.card.n x.card.c))
            (exact HKEEP.out _ (by (repeat (first | (with_reducible exact Below.refl _ _) | (with_reducible exact Own.b own3) | (with_reducible exact Own.b own2) | (with_reducible exact Own.b own1) | (with_reducible refine Below.drew ?_) | (with_reducible refine below_alloc ?_ _)))))
            (first
              | (refine Ty.stepAppendOld (w0 := wc) tyRun (by rfl) _ _ (by rfl) (.slice (some ⟨_, 0, none⟩) 0 0) [] (by rfl) (by (repeat (first | (with_reducible assumption) | (with_reducible exact Own.nil (by (repeat (first | (with_reducible exact Below.refl _ _) | (with_reducible exact Own.b own3) | (with_reducible exact Own.b own2) | (with_reducible exact Own.b own1) | (with_reducible refine Below.drew ?_) | (with_reducible refine below_alloc ?_ _)))) _ (by simp)) | (with_reducible refine Own.drew ?_) | (with_reducible refine Own.alloc ?_ _)))) A2 j _ _ (by rfl) hoT HL1.out ?_; intro v1 w1 own1 hg1 hat1)
              | (refine Ty.stepAppend (w0 := wc) tyRun (by rfl) _ _ (by rfl) v1 _ (by rfl) (by (repeat (first | (with_reducible assumption) | (with_reducible exact Own.nil (by (repeat (first | (with_reducible exact Below.refl _ _) | (with_reducible exact Own.b own3) | (with_reducible exact Own.b own2) | (with_reducible exact Own.b own1) | (with_reducible refine Below.drew ?_) | (with_reducible refine below_alloc ?_ _)))) _ (by simp)) | (with_reducible refine Own.drew ?_) | (with_reducible refine Own.alloc ?_ _)))) _ 1 1 [[Value.int .i64 x.runner, .bool x.started, .bool x.out, .int .i64 x.card.k.number, .int .i64 x.card.k.start, .int .i64 x.card.k.finish, .slice x.card.a x.card.n x.card.c]] (by rfl) (by (repeat (first | (with_reducible assumption) | (with_reducible exact Src.lit _ _ _ _ (by simp) rfl (by simp [Value.oneCell'])) | (with_reducible refine Src.drew ?_) | (with_reducible refine Src.alloc ?_ _) | (with_reducible refine Src.grown ?_ (by with_reducible assumption) (by simp [Value.ownBlock]))))) HL2.out ?_; intro v2 w2 own2 hg2 hat2)
              | (refine Ty.stepAppendOld (w0 := wc) tyRun (by rfl) _ _ (by rfl) v2 _ (by rfl) (by (repeat (first | (with_reducible assumption) | (with_reducible exact Own.nil (by (repeat (first | (with_reducible exact Below.refl _ _) | (with_reducible exact Own.b own3) | (with_reducible exact Own.b own2) | (with_reducible exact Own.b own1) | (with_reducible refine Below.drew ?_) | (with_reducible refine below_alloc ?_ _)))) _ (by simp)) | (with_reducible refine Own.drew ?_) | (with_reducible refine Own.alloc ?_ _)))) _ _ _ _ (by rfl) hoD HL3.out ?_; intro v3 w3 own3 hg3 hat3))
          all_goals
            have hown : Own w 53 7 w3 v3 ((putIn (ltRun cs limit) pre x).map Run.lst) := by
              refine ⟨?_, step_ ownc.2 (Nat.le_refl _) own3.2⟩
              have := own3.1.mono ownc.2.size
              simpa [putIn, ← HJ.out, Run.lst] using this
            have hBW3 := step_ (step_ HBW.out (Nat.le_refl _) hb) (Nat.le_refl _) own3.2
            have hne3 : v3.ownBlock ≠ some w.heap.size := fun e => by have := (own3.1.lt _ e).1; have := hBW3.size; have := HSZ.out; have := step_ HBW.out (Nat.le_refl _) hb; have := this.size; omega
            clear own3 own2 own1
            go_wp2
            go_roundw
            case rel => exact ⟨k + 1, by omega, by go_num, by rw [HS.out]; exact hown, hBW3, hne3⟩
            case measure => simp [intOf]; omega
      · go_wp2
        go_meet
        obtain rfl : k = xs.length := by omega
        rw [List.take_length] at own
        exact ⟨own, HBW.out, HNE.out⟩
  case rest =>
    obtain ⟨own, hBW, HNE⟩ := hcut
    have hln := ordX_len cs limit xs
    obtain ⟨M, hM⟩ : ∃ M, ordX cs limit xs = M := ⟨_, rfl⟩
    rw [hM] at own hln
    have HM := Lib.hid hM
    have hl10 : M.length ≤ 10 := by omega
    have HOO := Lib.hid (HOW.out.below hBW)
    obtain ⟨A2, c2, rfl, hc2, hm2⟩ := own.1.parts
    simp only [List.length_map] at own hc2 HNE ⊢
    have HR0 := Lib.hid own.1
    have HN0 := Lib.hid (show (Value.slice A2 M.length c2).ownBlock = none ∨ (Value.slice A2 M.length c2).ownBlock ≠ (Value.slice (some ⟨w.heap.size, 0, none⟩) 0 0).ownBlock from .inr HNE.out)
    clear hln hM own hBW HNE
    go_wp2_with fail
    go_loopw [8, 12] (fun s i wr => ∃ k : Nat, k ≤ M.length ∧ i = .int .i64 k ∧ Own w 3 1 wr s (((M.take k).map (fun p => p.runner)).map ints) ∧ Row w.heap.size 53 7 wr (.slice A2 M.length c2) (M.map Run.lst) ∧ Hid ((Value.slice A2 M.length c2).ownBlock = none ∨ (Value.slice A2 M.length c2).ownBlock ≠ s.ownBlock))
      (fun _ i _ => M.length - (intOf i).toNat)
    case atStart => exact ⟨0, Nat.zero_le _, rfl, by simpa using HOO.out, HR0.out, HN0.out⟩
    case round =>
      clear HOO HR0 HN0
      obtain ⟨k, hkl, rfl, own, row3, HNE⟩ := hrel
      by_cases hlt : k < M.length
      · obtain ⟨g, cap, he, hbg, hg, hcap⟩ := row3.form (by simp; omega)
        simp only [Value.slice.injEq, List.length_map] at he
        obtain ⟨rfl, _, rfl⟩ := he
        have hr := row3.range (k := k) (by simpa using hlt)
        simp only [List.getElem_map] at hr
        have hcn := (Run.cells hr).1
        have HS := Lib.hid (show ((M.take (k + 1)).map (fun p => p.runner)).map ints = ((M.take k).map (fun p => p.runner)).map ints ++ [ints M[k].runner] by rw [List.take_succ_eq_append_getElem hlt, List.map_append, List.map_append]; rfl)
        have HLL := Lib.hid (show (((M.take k).map (fun p => p.runner)).map ints).length + 1 ≤ 2147483648 by simp; omega)
        obtain ⟨pl, hpl⟩ : ∃ pl, pl = ((M.take k).map (fun p => p.runner)).map ints := ⟨_, rfl⟩
        rw [← hpl] at own HS HLL
        obtain ⟨x, hx⟩ : ∃ x, x = M[k] := ⟨_, rfl⟩
        rw [← hx] at hcn HS
        have HO1 := Lib.hid (own.alloc (.cells #[.int .i64 x.runner] 3))
        have HBR := Lib.hid (row3.alloc (.cells #[.int .i64 x.runner] 3))
        have HSR := Lib.hid (show Src (wr.alloc (.cells #[.int .i64 x.runner] 3)) 1 (some ⟨wr.heap.size, 0, none⟩) 1 [ints x.runner] from Src.lit wr 3 (ints x.runner) wr.heap.size rfl rfl (ints_one _))
        clear hpl hx own row3 hr
        go_wp2_with (at_builtin; refine tyInt.append rfl _ _ rfl w.heap.size _ _ rfl HO1.out.1 _ 1 1 [ints x.runner] rfl HSR.out HLL.out HO1.out.2.size ?_; intro o5 w5 hrow5 hg5 hat5)
        have HB5 := Lib.hid (HO1.out.2.grown hg5 HO1.out.2.size (fun q hq => (HO1.out.1.lt q hq).1))
        have HR5 := Lib.hid (HBR.out.kept hg5 HNE.out)
        have HN5 := Lib.hid (show (Value.slice (some ⟨g, 0, none⟩) M.length c2).ownBlock = none ∨ (Value.slice (some ⟨g, 0, none⟩) M.length c2).ownBlock ≠ o5.ownBlock by
          rcases hat5 with e | e
          · rw [e]; exact HNE.out
          · rw [e]; exact .inr fun e2 => by have := (HBR.out.lt _ e2).2; omega)
        go_roundw
        case rel => exact ⟨k + 1, by omega, by go_num, by rw [HS.out]; exact ⟨hrow5, HB5.out⟩, HR5.out, HN5.out⟩
        case measure => simp [intOf]; omega
      · go_wp2
        go_ret2
        obtain rfl : k = M.length := by omega
        rw [List.take_length] at own
        exact ⟨_, rfl, by rw [HM.out]; exact own.1, own.2⟩
end Go.Proofs.Ytojpklpfnmjikaa
