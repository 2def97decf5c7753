/- The walks of RankOfRun and TimesBehind. No condition. -/
import Derived.Test.YtojpklpfnmjikaaReQ
namespace Go.Proofs.Ytojpklpfnmjikaa
open Go Go.RowKit

set_option maxRecDepth 100000 in
set_option maxHeartbeats 4000000 in
theorem l15Ok_any (xs : List Run) (v : Value) (cs : List Int) (u : Value) (limit : Int) (w : World) (h : RunS w v xs) (hs : Sl (Flat ints) 1 w u cs) (hn : cs.length ≤ 1048577) (hok : ∀ p ∈ xs, runOk p.k = true) (hxl : xs.length ≤ 1048577) :
    Calls Try.prog 66 #[v, u, .int .i64 limit] w fun e w' => ∃ r, e = .returned r ∧ Row w.heap.size 53 7 w' r ((xs.filter fun p => okR cs limit p.k).map Run.lst) ∧ Below w.heap.size w w' := by
  have HST := Lib.hid (fun k (hk : k < xs.length) W (hW : Below w.heap.size w W) => l15Status_any xs[k] cs u limit W ((h.2 _ (List.getElem_mem hk)).below hW) (hs.below (Flat.keeps _) hW) hn (hok _ (List.getElem_mem hk)))
  obtain ⟨A, c, rfl, hc, hm, hk⟩ := h.1.open_
  have own0 : Own w 53 7 (w.alloc (.cells #[] 53)) (.slice (some ⟨w.heap.size, 0, none⟩) 0 0) [] := Own.nil (Below.refl _ _) _ rfl
  clear h hs hok
  go_enter Try.func66, Try.ntmps66
  go_wp2
  go_loopw [7, 8] (fun o i wr => ∃ k : Nat, k ≤ xs.length ∧ i = .int .i64 k ∧ Own w 53 7 wr o (((xs.take k).filter fun p => okR cs limit p.k).map Run.lst))
    (fun _ i _ => xs.length - (intOf i).toNat)
  case atStart => exact ⟨0, Nat.zero_le _, rfl, own0⟩
  case round =>
    clear own0
    obtain ⟨k, hkl, rfl, own⟩ := hrel
    by_cases hlt : k < xs.length
    · obtain ⟨b, off, rfl, hat⟩ := flat_at hk (by omega)
      have hr := rangeAt_below (hat k hlt) own.2
      have HS := Lib.hid (show ((xs.take (k + 1)).filter fun p => okR cs limit p.k).map Run.lst = ((xs.take k).filter fun p => okR cs limit p.k).map Run.lst ++ if stV xs[k].k cs limit = 0 then [xs[k].lst] else [] by
        rw [List.take_succ_eq_append_getElem hlt, List.filter_append]
        by_cases e : stV xs[k].k cs limit = 0 <;> simp [okR, e])
      have HLL := Lib.hid (show (((xs.take k).filter fun p => okR cs limit p.k).map Run.lst).length + 1 ≤ 2147483648 by
        have := List.length_filter_le (fun p => okR cs limit p.k) (xs.take k)
        simp at this ⊢; omega)
      obtain ⟨pl, hpl⟩ : ∃ pl, pl = ((xs.take k).filter fun p => okR cs limit p.k).map Run.lst := ⟨_, rfl⟩
      rw [← hpl] at own HS HLL
      have HCALL := Lib.hid (HST.out k hlt _ own.2)
      have HA := Lib.hid (hat k hlt)
      obtain ⟨x, hx⟩ : ∃ x, x = xs[k] := ⟨_, rfl⟩
      rw [← hx] at hr HS HCALL HA
      obtain ⟨s, hs⟩ : ∃ s, s = stV x.k cs limit := ⟨_, rfl⟩
      rw [← hs] at HS HCALL
      have HO := Lib.hid own
      clear hat hk hpl hx hs own
      by_cases hs0 : s = 0
      · subst hs0
        rw [if_pos rfl] at HS
        go_wp2_with (first
          | ((with_reducible refine at_load_ 53 ?_); refine Run.loadImpl rfl _ rfl b (off + k * 7) rfl _ hr ?_)
          | (go_at_call 63; refine HCALL.out.mono ?_; rintro e w3 ⟨rfl, hb3⟩; have HO3 := Lib.hid (HO.out.below hb3); have hr3 := rangeAt_below HA.out HO3.out.2)
          | ((with_reducible refine at_load_ 53 ?_); refine Run.loadImpl rfl _ rfl b (off + k * 7) rfl _ hr3 ?_)
          | (at_builtin; refine tyRun.append rfl _ _ rfl w.heap.size _ _ rfl (HO3.out.alloc _).1 _ 1 1 [x.lst] rfl (Src.lit _ _ x.lst _ (by simp) rfl x.one) HLL.out (by simp; have := HO3.out.2.size; omega) ?_; intro o4 w4 hrow4 hg4 _))
        have HB4 := Lib.hid ((HO3.out.alloc (.cells x.lst.toArray 53)).2.grown hg4 (HO3.out.alloc (.cells x.lst.toArray 53)).2.size (fun q hq => (HO3.out.1.lt q hq).1))
        go_roundw
        case rel => exact ⟨k + 1, by omega, by go_num, by rw [HS.out]; exact ⟨hrow4, HB4.out⟩⟩
        case measure => simp [intOf]; omega
      · have hs1 : (s == 0) = false := by simpa using hs0
        rw [if_neg hs0, List.append_nil] at HS
        go_wp2_with (first
          | ((with_reducible refine at_load_ 53 ?_); refine Run.loadImpl rfl _ rfl b (off + k * 7) rfl _ hr ?_)
          | (go_at_call 63; refine HCALL.out.mono ?_; rintro e w3 ⟨rfl, hb3⟩; have HO3 := Lib.hid (HO.out.below hb3)))
        go_roundw
        case rel => exact ⟨k + 1, by omega, by go_num, by rw [HS.out]; exact HO3.out⟩
        case measure => simp [intOf]; omega
    · go_wp2
      go_ret
      obtain rfl : k = xs.length := by omega
      rw [List.take_length] at own
      exact ⟨_, rfl, own.1, own.2⟩

/-- The time of a run, every one's being small. -/
theorem runTime_ok (p : Run) (h : runOk p.k = true) (w : World) : Calls Try.prog 68 #[p.val] w fun e w' => e = .returned (.int .i64 (rtime p.k)) ∧ Below w.heap.size w w' := by
  have := runOk_times h
  exact runTime_any p w this.1 this.2.1 this.2.2.1 this.2.2.2
theorem l15Time_ok (p : Run) (h : runOk p.k = true) (w : World) : Calls Try.prog 67 #[p.val] w fun e w' => e = .returned (.int .i64 (rtime p.k)) ∧ Below w.heap.size w w' := by
  have := runOk_times h
  exact l15Time_any p w this.1 this.2.1 this.2.2.1 this.2.2.2
theorem l1Least_any (a b : Int) (w : World) : Calls Try.prog 69 #[.int .i64 a, .int .i64 b] w fun e w' => e = .returned (.int .i64 (min a b)) ∧ w = w' := by
  go_enter Try.func69, Try.ntmps69
  go_wp2
  all_goals (go_ret; exact ⟨ret_int (by omega), rfl⟩)

set_option maxRecDepth 100000 in
set_option maxHeartbeats 4000000 in
theorem impl_RankOfRun (xs : List Run) (ks : List RunK) (v : Value) (cs : List Int) (u : Value) (limit r : Int) (w : World) (hks : xs.map Run.k = ks) (h : RunS w v xs) (hs : Sl (Flat ints) 1 w u cs) (_ : ∀ x ∈ cs, I64 x) (_ : I64 limit) (_ : I64 r) :
    Calls Try.prog 28 #[v, u, .int .i64 limit, .int .i64 r] w fun e w' => e = .returned (.tuple #[.int .i64 (rkV ks cs limit r).1, .bool (rkV ks cs limit r).2]) ∧ Below w.heap.size w w' := by
  subst hks
  have HFI := Lib.hid (runIndex_any xs r v w h)
  have HAS := Lib.hid (fun W (hW : Below w.heap.size w W) => canJudge_any xs cs limit v u W (h.below hW) (hs.below (Flat.keeps _) hW))
  rcases idxA_cases (isRn r) xs with ⟨hi, _⟩ | ⟨i, hil, hi, hpi, hbef⟩
  · have HV := Lib.hid (show rkV (xs.map Run.k) cs limit r = (0, false) from rkV_none (findR_none hi))
    rw [hi] at HFI
    rw [HV.out]
    obtain ⟨q, hq⟩ : ∃ q, askR (xs.map Run.k) cs limit = q := ⟨_, rfl⟩
    rw [hq] at HAS
    clear hq hi h hs
    cases q <;>
    · go_enter Try.func28, Try.ntmps28
      go_wp2_with (first
        | (go_at_call 58; refine HFI.out.mono ?_; rintro e w1 ⟨rfl, hb1⟩)
        | (go_at_call 64; refine (HAS.out _ hb1).mono ?_; rintro e w2 ⟨rfl, hb2⟩))
      go_ret2
      exact ⟨rfl, step_ hb1 (Nat.le_refl _) hb2⟩
  have HF := Lib.hid (findR_at hil hpi hbef)
  rw [hi] at HFI
  have hi0 : ¬ ((i : Int) < 0) := by omega
  clear hpi hbef hi
  by_cases ha : askR (xs.map Run.k) cs limit = true
  rotate_left
  · have ha' : askR (xs.map Run.k) cs limit = false := by simpa using ha
    have HV := Lib.hid (show rkV (xs.map Run.k) cs limit r = (0, false) from rkV_no ha')
    rw [ha'] at HAS
    rw [HV.out]
    clear ha ha' h hs
    go_enter Try.func28, Try.ntmps28
    go_wp2_with (first
      | (go_at_call 58; refine HFI.out.mono ?_; rintro e w1 ⟨rfl, hb1⟩)
      | (go_at_call 64; refine (HAS.out _ hb1).mono ?_; rintro e w2 ⟨rfl, hb2⟩))
    go_ret2
    exact ⟨rfl, step_ hb1 (Nat.le_refl _) hb2⟩
  obtain ⟨hg, hco, hl1, hl2⟩ := askR_parts ha
  have hlen := codesOk_len hco
  have hxl := goodRs_len hg
  have HOK := Lib.hid (goodRs_ok hg)
  have HST := Lib.hid (fun k (hk : k < xs.length) W (hW : Below w.heap.size w W) => statusOf_any xs[k] cs u limit W ((h.2 _ (List.getElem_mem hk)).below hW) (hs.below (Flat.keeps _) hW) (by omega) (goodRs_ok hg _ (List.getElem_mem hk)))
  have hV := rkV_some ha HF.out
  obtain ⟨A, c, rfl, hc, hm, hk⟩ := h.1.open_
  obtain ⟨b, off, rfl, hat⟩ := flat_at hk (by omega)
  have HRI := Lib.hid (hat i hil)
  have HAT := Lib.hid hat
  have HSI := Lib.hid (HST.out i hil)
  rw [ha] at HAS
  have HTI := Lib.hid (fun W => runTime_ok xs[i] (HOK.out _ (List.getElem_mem hil)) W)
  obtain ⟨y, hy⟩ : ∃ y, y = xs[i] := ⟨_, rfl⟩
  rw [← hy] at HSI hV HRI HTI
  clear ha hg hco h hk hat hs hlen hy
  by_cases hs0 : stV y.k cs limit = 0
  rotate_left
  · obtain ⟨s, hs'⟩ : ∃ s, s = stV y.k cs limit := ⟨_, rfl⟩
    rw [← hs'] at HSI hV hs0
    have hs1 : (s != 0) = true := by simpa using hs0
    rw [if_neg hs0] at hV
    have HV := Lib.hid hV
    rw [HV.out]
    clear hs' hV hs0
    go_enter Try.func28, Try.ntmps28
    go_wp2_with (first
      | (go_at_call 58; refine HFI.out.mono ?_; rintro e w1 ⟨rfl, hb1⟩)
      | (go_at_call 64; refine (HAS.out _ hb1).mono ?_; rintro e w2 ⟨rfl, hb2⟩; have hB2 := step_ hb1 (Nat.le_refl _) hb2; have hr := rangeAt_below HRI.out hB2)
      | ((with_reducible refine at_load_ 53 ?_); refine Run.loadImpl rfl _ rfl b (off + i * 7) rfl _ hr ?_)
      | (go_at_call 65; refine (HSI.out _ hB2).mono ?_; rintro e w3 ⟨rfl, hb3⟩))
    go_ret2
    exact ⟨rfl, step_ hB2 (Nat.le_refl _) hb3⟩
  rw [hs0] at HSI
  rw [if_pos hs0] at hV
  have HV := Lib.hid hV
  rw [HV.out]
  obtain ⟨t, ht⟩ : ∃ t, t = rtime y.k := ⟨_, rfl⟩
  rw [← ht] at HTI ⊢
  have HTI := Lib.hid (show ∀ W, Calls Try.prog 68 #[.agg #[.int .i64 y.runner, .bool y.started, .bool y.out, .int .i64 y.card.k.number, .int .i64 y.card.k.start, .int .i64 y.card.k.finish, .slice y.card.a y.card.n y.card.c]] W fun e w' => e = .returned (.int .i64 t) ∧ Below W.heap.size W w' from HTI.out)
  have HSTEP := Lib.hid (rkN_step cs limit t (xs.map Run.k))
  have HSM := Lib.hid (rkN_small cs limit t)
  have HKK := Lib.hid (show ∀ k (h : k < xs.length) (h' : k < (xs.map Run.k).length), (xs.map Run.k)[k] = xs[k].k from fun k _ _ => by simp)
  have HLM := Lib.hid (show (xs.map Run.k).length = xs.length by simp)
  obtain ⟨ks, hks⟩ : ∃ ks, ks = xs.map Run.k := ⟨_, rfl⟩
  rw [← hks] at HSTEP HKK HLM ⊢
  clear hks hV hs0 ht HV
  go_enter Try.func28, Try.ntmps28
  go_wp2_with (first
    | (go_at_call 58; refine HFI.out.mono ?_; rintro e w1 ⟨rfl, hb1⟩)
    | (go_at_call 64; refine (HAS.out _ hb1).mono ?_; rintro e w2 ⟨rfl, hb2⟩; have hB2 := step_ hb1 (Nat.le_refl _) hb2; have hr := rangeAt_below HRI.out hB2)
    | ((with_reducible refine at_load_ 53 ?_); refine Run.loadImpl rfl _ rfl b (off + i * 7) rfl _ hr ?_)
    | (go_at_call 65; refine (HSI.out _ hB2).mono ?_; rintro e w3 ⟨rfl, hb3⟩))
  have HB3 := Lib.hid (step_ hB2 (Nat.le_refl _) hb3)
  clear hB2 hb1 hb2 hb3 hr
  go_loopw [11, 36] (fun t_ j wr => ∃ k : Nat, k ≤ xs.length ∧ j = .int .i64 k ∧ t_ = .int .i64 (rkN cs limit t (ks.take k)) ∧ Below w.heap.size w wr)
    (fun _ j _ => xs.length - (intOf j).toNat)
  case atStart => exact ⟨0, Nat.zero_le _, rfl, by simp [rkN], HB3.out⟩
  case round =>
    obtain ⟨k, hkl, rfl, rfl, hb⟩ := hrel
    by_cases hlt : k < xs.length
    · have hr := rangeAt_below (HAT.out k hlt) hb
      have hkk : k < ks.length := by rw [HLM.out]; exact hlt
      have hst := HSTEP.out k hkk
      have hsm := HSM.out (ks.take k)
      have hsm2 : (ks.take k).length ≤ 10 := by have := HLM.out; simp; omega
      rw [HKK.out k hlt hkk] at hst
      obtain ⟨cur, hcur⟩ : ∃ cur, cur = rkN cs limit t (ks.take k) := ⟨_, rfl⟩
      rw [← hcur] at hst hsm ⊢
      obtain ⟨hc1, hc2⟩ := hsm
      have hc3 : cur ≤ 11 := by omega
      have HCALL := Lib.hid (HST.out k hlt)
      have HTK := Lib.hid (fun W => runTime_ok xs[k] (HOK.out _ (List.getElem_mem hlt)) W)
      obtain ⟨x, hx⟩ : ∃ x, x = xs[k] := ⟨_, rfl⟩
      rw [← hx] at hr HCALL HTK hst
      have hrn := Run.rangeNew wr x 53
      have hbn : Below wr.heap.size wr (wr.alloc (.cells #[.int .i64 x.runner, .bool x.started, .bool x.out, .int .i64 x.card.k.number, .int .i64 x.card.k.start, .int .i64 x.card.k.finish, .slice x.card.a x.card.n x.card.c] 53)) := below_alloc (Below.refl _ _) _
      have hry := rangeAt_below HRI.out (step_ hb (Nat.le_refl _) hbn)
      have HBN := Lib.hid (step_ hb (Nat.le_refl _) hbn)
      have HC2 := Lib.hid (fun (s : After (wr.alloc (.cells #[.int .i64 x.runner, .bool x.started, .bool x.out, .int .i64 x.card.k.number, .int .i64 x.card.k.start, .int .i64 x.card.k.finish, .slice x.card.a x.card.n x.card.c] 53))) => HCALL.out s.w' (step_ HBN.out (Nat.le_refl _) s.hb))
      obtain ⟨s0, hs0⟩ : ∃ s0, s0 = stV x.k cs limit := ⟨_, rfl⟩
      obtain ⟨tk, htk⟩ : ∃ tk, tk = rtime x.k := ⟨_, rfl⟩
      rw [← hs0, ← htk] at hst
      rw [← hs0] at HC2
      rw [← htk] at HTK
      have HTK := Lib.hid (show ∀ W, Calls Try.prog 68 #[.agg #[.int .i64 x.runner, .bool x.started, .bool x.out, .int .i64 x.card.k.number, .int .i64 x.card.k.start, .int .i64 x.card.k.finish, .slice x.card.a x.card.n x.card.c]] W fun e w' => e = .returned (.int .i64 tk) ∧ Below W.heap.size W w' from HTK.out)
      have HSTP := Lib.hid hst
      clear hst hcur hsm2 hx hs0 htk hb hbn HCALL
      by_cases hz : s0 = 0
      · subst hz
        by_cases hlt2 : tk < t
        all_goals
          go_wp2_with ((with_reducible refine at_load_ 53 ?_); refine Run.loadImpl rfl _ rfl b (off + k * 7) rfl _ hr ?_)
          refine region_after (by kernel_rfl) (by kernel_rfl) ?_
          repeat (any_goals (first | go_big_quiet_step ((first | (go_at_call 65; exact Calls.after (v := .int .i64 0) _ (HC2.out _)) | (go_at_call 68; first | (with_reducible exact Calls.after (v := .int .i64 tk) _ (HTK.out _)) | (with_reducible exact Calls.after (v := .int .i64 t) _ (HTI.out _))))) | (refine Run.qloadImpl rfl _ rfl wr.heap.size 0 rfl x hrn ?_) | (refine Run.qloadImpl rfl _ rfl b (off + i * 7) rfl y hry ?_) | quiet_step ((first | (go_at_call 65; exact Calls.after (v := .int .i64 0) _ (HC2.out _)) | (go_at_call 68; first | (with_reducible exact Calls.after (v := .int .i64 tk) _ (HTK.out _)) | (with_reducible exact Calls.after (v := .int .i64 t) _ (HTI.out _))))) | (refine wpQuiet_step (fun K hK => ?_); go_simp; split <;> (refine hK _ ?_; clear hK K))))
          all_goals (refine wpQuiet_nil ?_; intro s)
          go_wp2
          go_roundw
          case rel => exact ⟨k + 1, by omega, by go_num, by (rw [HSTP.out]; refine congrArg (Value.int .i64) ?_; simp only [true_and]; split <;> omega), step_ HBN.out (Nat.le_refl _) s.hb⟩
          case measure => simp [intOf]; omega
      · have hz' : (s0 == 0) = false := by simpa using hz
        go_wp2_with ((with_reducible refine at_load_ 53 ?_); refine Run.loadImpl rfl _ rfl b (off + k * 7) rfl _ hr ?_)
        refine region_after (by kernel_rfl) (by kernel_rfl) ?_
        repeat (any_goals (first | go_big_quiet_step ((go_at_call 65; exact Calls.after (v := .int .i64 s0) _ (HC2.out _))) | (refine Run.qloadImpl rfl _ rfl wr.heap.size 0 rfl x hrn ?_) | (refine Run.qloadImpl rfl _ rfl b (off + i * 7) rfl y hry ?_) | quiet_step ((go_at_call 65; exact Calls.after (v := .int .i64 s0) _ (HC2.out _))) | (refine wpQuiet_step (fun K hK => ?_); go_simp; split <;> (refine hK _ ?_; clear hK K))))
        all_goals (refine wpQuiet_nil ?_; intro s)
        go_wp2
        go_roundw
        case rel => exact ⟨k + 1, by omega, by go_num, by (rw [HSTP.out]; refine congrArg (Value.int .i64) ?_; split <;> omega), step_ HBN.out (Nat.le_refl _) s.hb⟩
        case measure => simp [intOf]; omega
    · go_wp2
      go_ret2
      obtain rfl : k = xs.length := by omega
      rw [← HLM.out, List.take_length]
      exact ⟨rfl, hb⟩
set_option maxRecDepth 100000 in
set_option maxHeartbeats 4000000 in
theorem spec_RankOfRun (xs : List Run) (ks : List RunK) (v : Value) (cs : List Int) (u : Value) (limit r : Int) (w : World) (hks : xs.map Run.k = ks) (h : RunS w v xs) (hs : Sl (Flat ints) 1 w u cs) (_ : ∀ x ∈ cs, I64 x) (_ : I64 limit) (_ : I64 r) :
    Calls Try.prog 27 #[v, u, .int .i64 limit, .int .i64 r] w fun e w' => e = .returned (.tuple #[.int .i64 (rkV ks cs limit r).1, .bool (rkV ks cs limit r).2]) ∧ Below w.heap.size w w' := by
  subst hks
  have HFI := Lib.hid (l15Find_any xs r v w h)
  have HAS := Lib.hid (fun W (hW : Below w.heap.size w W) => l15Asked_any xs cs limit v u W (h.below hW) (hs.below (Flat.keeps _) hW))
  rcases idxA_cases (isRn r) xs with ⟨hi, _⟩ | ⟨i, hil, hi, hpi, hbef⟩
  · have HV := Lib.hid (show rkV (xs.map Run.k) cs limit r = (0, false) from rkV_none (findR_none hi))
    rw [hi] at HFI
    rw [HV.out]
    obtain ⟨q, hq⟩ : ∃ q, askR (xs.map Run.k) cs limit = q := ⟨_, rfl⟩
    rw [hq] at HAS
    clear hq hi h hs
    cases q <;>
    · go_enter Try.func27, Try.ntmps27
      go_wp2_with (first
        | (go_at_call 56; refine HFI.out.mono ?_; rintro e w1 ⟨rfl, hb1⟩)
        | (go_at_call 62; refine (HAS.out _ hb1).mono ?_; rintro e w2 ⟨rfl, hb2⟩))
      go_ret2
      exact ⟨rfl, step_ hb1 (Nat.le_refl _) hb2⟩
  have HF := Lib.hid (findR_at hil hpi hbef)
  rw [hi] at HFI
  have hi0 : ¬ ((i : Int) < 0) := by omega
  clear hpi hbef hi
  by_cases ha : askR (xs.map Run.k) cs limit = true
  rotate_left
  · have ha' : askR (xs.map Run.k) cs limit = false := by simpa using ha
    have HV := Lib.hid (show rkV (xs.map Run.k) cs limit r = (0, false) from rkV_no ha')
    rw [ha'] at HAS
    rw [HV.out]
    clear ha ha' h hs
    go_enter Try.func27, Try.ntmps27
    go_wp2_with (first
      | (go_at_call 56; refine HFI.out.mono ?_; rintro e w1 ⟨rfl, hb1⟩)
      | (go_at_call 62; refine (HAS.out _ hb1).mono ?_; rintro e w2 ⟨rfl, hb2⟩))
    go_ret2
    exact ⟨rfl, step_ hb1 (Nat.le_refl _) hb2⟩
  obtain ⟨hg, hco, hl1, hl2⟩ := askR_parts ha
  have hlen := codesOk_len hco
  have hxl := goodRs_len hg
  have HOK := Lib.hid (goodRs_ok hg)
  have HST := Lib.hid (fun k (hk : k < xs.length) W (hW : Below w.heap.size w W) => l15Status_any xs[k] cs u limit W ((h.2 _ (List.getElem_mem hk)).below hW) (hs.below (Flat.keeps _) hW) (by omega) (goodRs_ok hg _ (List.getElem_mem hk)))
  have hV := rkV_some ha HF.out
  have HRS := Lib.hid h
  have HSS := Lib.hid hs
  obtain ⟨A, c, rfl, hc, hm, hk⟩ := h.1.open_
  obtain ⟨b, off, rfl, hat⟩ := flat_at hk (by omega)
  have HRI := Lib.hid (hat i hil)
  have HAT := Lib.hid hat
  have HSI := Lib.hid (HST.out i hil)
  rw [ha] at HAS
  have HTI := Lib.hid (fun W => l15Time_ok xs[i] (HOK.out _ (List.getElem_mem hil)) W)
  obtain ⟨y, hy⟩ : ∃ y, y = xs[i] := ⟨_, rfl⟩
  rw [← hy] at HSI hV HRI HTI
  clear ha hg hco h hk hat hs hy
  by_cases hs0 : stV y.k cs limit = 0
  rotate_left
  · obtain ⟨s, hs'⟩ : ∃ s, s = stV y.k cs limit := ⟨_, rfl⟩
    rw [← hs'] at HSI hV hs0
    have hs1 : (s != 0) = true := by simpa using hs0
    rw [if_neg hs0] at hV
    have HV := Lib.hid hV
    rw [HV.out]
    clear hs' hV hs0
    go_enter Try.func27, Try.ntmps27
    go_wp2_with (first
      | (go_at_call 56; refine HFI.out.mono ?_; rintro e w1 ⟨rfl, hb1⟩)
      | (go_at_call 62; refine (HAS.out _ hb1).mono ?_; rintro e w2 ⟨rfl, hb2⟩; have hB2 := step_ hb1 (Nat.le_refl _) hb2; have hr := rangeAt_below HRI.out hB2)
      | ((with_reducible refine at_load_ 53 ?_); refine Run.loadImpl rfl _ rfl b (off + i * 7) rfl _ hr ?_)
      | (go_at_call 63; refine (HSI.out _ hB2).mono ?_; rintro e w3 ⟨rfl, hb3⟩))
    go_ret2
    exact ⟨rfl, step_ hB2 (Nat.le_refl _) hb3⟩
  rw [hs0] at HSI
  rw [if_pos hs0] at hV
  have HV := Lib.hid hV
  rw [HV.out]
  obtain ⟨t, ht⟩ : ∃ t, t = rtime y.k := ⟨_, rfl⟩
  rw [← ht] at HTI ⊢
  have HTI := Lib.hid (show ∀ W, Calls Try.prog 67 #[.agg #[.int .i64 y.runner, .bool y.started, .bool y.out, .int .i64 y.card.k.number, .int .i64 y.card.k.start, .int .i64 y.card.k.finish, .slice y.card.a y.card.n y.card.c]] W fun e w' => e = .returned (.int .i64 t) ∧ Below W.heap.size W w' from HTI.out)
  have HE := Lib.hid (show cntT t ((xs.filter fun p => okR cs limit p.k).map Run.k) = rkN cs limit t (xs.map Run.k) by rw [← rkN_cnt, List.filter_map]; rfl)
  have HLE := Lib.hid (show (xs.filter fun p => okR cs limit p.k).length ≤ 10 from Nat.le_trans (List.length_filter_le _ _) hxl)
  have HOS := Lib.hid (fun W (hW : Below w.heap.size w W) => l15Ok_any xs _ cs u limit W (HRS.out.below hW) (HSS.out.below (Flat.keeps _) hW) (by omega) HOK.out (by omega))
  have HOY := Lib.hid (show ∀ p ∈ xs.filter fun p => okR cs limit p.k, runOk p.k = true from fun p hp => HOK.out p (List.mem_filter.1 hp).1)
  obtain ⟨ys, hys⟩ : ∃ ys, ys = xs.filter fun p => okR cs limit p.k := ⟨_, rfl⟩
  rw [← hys] at HE HLE HOS HOY
  rw [← HE.out]
  have HSTEP := Lib.hid (cntT_step t (ys.map Run.k))
  have HSM := Lib.hid (cntT_small t)
  clear hV hs0 ht HV hys
  go_enter Try.func27, Try.ntmps27
  go_wp2_with (first
    | (go_at_call 56; refine HFI.out.mono ?_; rintro e w1 ⟨rfl, hb1⟩)
    | (go_at_call 62; refine (HAS.out _ hb1).mono ?_; rintro e w2 ⟨rfl, hb2⟩; have hB2 := step_ hb1 (Nat.le_refl _) hb2; have hr := rangeAt_below HRI.out hB2)
    | ((with_reducible refine at_load_ 53 ?_); refine Run.loadImpl rfl _ rfl b (off + i * 7) rfl _ hr ?_)
    | (go_at_call 63; refine (HSI.out _ hB2).mono ?_; rintro e w3 ⟨rfl, hb3⟩; have hB3 := step_ hB2 (Nat.le_refl _) hb3)
    | (go_at_call 66; refine (HOS.out _ hB3).mono ?_; rintro e w4 ⟨o, rfl, row, hb4⟩))
  obtain ⟨D, dc, rfl, hdc, hdcm⟩ := row.parts
  have HB4 := Lib.hid (step_ hB3 (Nat.le_refl _) hb4)
  have HSY := Lib.hid (Sl.of_flat (enc := Run.lst) row)
  simp only [List.length_map] at hdc HSY ⊢
  clear hB2 hb1 hb2 hb3 hr hB3 hb4 row
  obtain ⟨D', dc', hv', _, _, hfk⟩ := HSY.out.open_
  simp only [Value.slice.injEq] at hv'
  obtain ⟨rfl, _, rfl⟩ := hv'
  go_loopw [11, 13] (fun t_ j wr => ∃ k : Nat, k ≤ ys.length ∧ j = .int .i64 k ∧ t_ = .int .i64 (cntT t ((ys.map Run.k).take k)) ∧ Below w4.heap.size w4 wr)
    (fun _ j _ => ys.length - (intOf j).toNat)
  case atStart => exact ⟨0, Nat.zero_le _, rfl, by simp [cntT], Below.refl _ _⟩
  case round =>
    obtain ⟨k, hkl, rfl, rfl, hb⟩ := hrel
    by_cases hlt : k < ys.length
    · obtain ⟨yb, yo, rfl, yat⟩ := flat_at hfk (by omega)
      have hr := rangeAt_below (yat k hlt) hb
      have hkk : k < (ys.map Run.k).length := by simpa using hlt
      have hst := HSTEP.out k hkk
      have hsm := HSM.out ((ys.map Run.k).take k)
      have hsm2 : ((ys.map Run.k).take k).length ≤ 10 := by have := HLE.out; simp; omega
      have hke : (ys.map Run.k)[k] = ys[k].k := by simp
      rw [hke] at hst
      obtain ⟨cur, hcur⟩ : ∃ cur, cur = cntT t ((ys.map Run.k).take k) := ⟨_, rfl⟩
      rw [← hcur] at hst hsm ⊢
      obtain ⟨hc1, hc2⟩ := hsm
      have hc3 : cur ≤ 11 := by omega
      have HTK := Lib.hid (fun W => l15Time_ok ys[k] (HOY.out _ (List.getElem_mem hlt)) W)
      obtain ⟨x, hx⟩ : ∃ x, x = ys[k] := ⟨_, rfl⟩
      rw [← hx] at hr HTK hst
      have hry := rangeAt_below HRI.out (step_ HB4.out (Nat.le_refl _) hb)
      have HBN := Lib.hid (step_ HB4.out (Nat.le_refl _) hb)
      have HBB := Lib.hid hb
      obtain ⟨tk, htk⟩ : ∃ tk, tk = rtime x.k := ⟨_, rfl⟩
      rw [← htk] at hst HTK
      have HTK := Lib.hid (show ∀ W, Calls Try.prog 67 #[.agg #[.int .i64 x.runner, .bool x.started, .bool x.out, .int .i64 x.card.k.number, .int .i64 x.card.k.start, .int .i64 x.card.k.finish, .slice x.card.a x.card.n x.card.c]] W fun e w' => e = .returned (.int .i64 tk) ∧ Below W.heap.size W w' from HTK.out)
      have HSTP := Lib.hid hst
      clear hst hcur hsm2 hx htk hb hke yat hfk
      by_cases hlt2 : tk < t
      all_goals
        go_wp2
        refine region_after (by kernel_rfl) (by kernel_rfl) ?_
        repeat (any_goals (first | go_big_quiet_step ((go_at_call 67; first | (with_reducible exact Calls.after (v := .int .i64 tk) _ (HTK.out _)) | (with_reducible exact Calls.after (v := .int .i64 t) _ (HTI.out _)))) | (refine Run.qloadImpl rfl _ rfl yb (yo + k * 7) rfl x hr ?_) | (refine Run.qloadImpl rfl _ rfl b (off + i * 7) rfl y hry ?_) | quiet_step ((go_at_call 67; first | (with_reducible exact Calls.after (v := .int .i64 tk) _ (HTK.out _)) | (with_reducible exact Calls.after (v := .int .i64 t) _ (HTI.out _)))) | (refine wpQuiet_step (fun K hK => ?_); go_simp; split <;> (refine hK _ ?_; clear hK K))))
        all_goals (refine wpQuiet_nil ?_; intro s)
        go_wp2
        go_roundw
        case rel => exact ⟨k + 1, by omega, by go_num, by (rw [HSTP.out]; refine congrArg (Value.int .i64) ?_; split <;> omega), step_ HBB.out (Nat.le_refl _) s.hb⟩
        case measure => simp [intOf]; omega
    · go_wp2
      go_ret2
      obtain rfl : k = ys.length := by omega
      have e1 : (ys.map Run.k).take ys.length = ys.map Run.k := List.take_of_length_le (by simp)
      rw [e1]
      exact ⟨rfl, step_ HB4.out (Nat.le_refl _) hb⟩
end Go.Proofs.Ytojpklpfnmjikaa
