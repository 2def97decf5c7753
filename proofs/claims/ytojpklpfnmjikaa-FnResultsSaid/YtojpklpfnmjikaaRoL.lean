/- The library's functions at slices of runs: a copy, the stable sort. No condition beyond the length. -/
import Derived.Test.YtojpklpfnmjikaaRoA
import Derived.BigRegion
namespace Go.Proofs.Ytojpklpfnmjikaa
open Go Go.RowKit

set_option maxHeartbeats 1000000 in
theorem clone_Run (xs : List Run) (v : Value) (w : World) (h : Sl (Flat Run.lst) 7 w v xs) (hn : xs.length ≤ 1048577) :
    Calls Try.prog 78 #[v] w fun e w' => ∃ r, e = .returned r ∧ Row w.heap.size 53 7 w' r (xs.map Run.lst) ∧ Below w.heap.size w w' := by
  obtain ⟨A, c, rfl, hc, hm, hk⟩ := h.open_
  have hsrc := Old.now (w0 := w) (Sl.old h Run.lst_len Run.one rfl) (below_alloc (Below.refl _ _) (.cells #[] 53))
  rcases A with _ | A
  · have hx : xs.length = 0 := by
      by_cases h0 : 0 < xs.length
      · obtain ⟨_, _, h1, _⟩ := hk.out h0; cases h1
      · omega
    obtain rfl := List.eq_nil_of_length_eq_zero hx
    have hnil := fun (W : World) => Lib.run_eql_slice_nil (P := Try.prog) W 25 53 none 0 c 0 0 Try.underlying25
    go_enter Try.func78, Try.ntmps78
    go_wp2
    go_ret
    exact ⟨_, rfl, Row.nil _ _ _ _, Below.refl _ _⟩
  · have hn1 := Lib.hid (show ([] : List (List Value)).length + xs.length ≤ 2147483648 by simp; omega)
    have hnil := fun (W : World) => Lib.run_eql_slice_nil (P := Try.prog) W 25 53 (some A) xs.length c 0 0 Try.underlying25
    clear hk h
    go_enter Try.func78, Try.ntmps78
    go_wp2_with (at_builtin; refine tyRun.append rfl _ _ rfl w.heap.size (.slice (some ⟨w.heap.size, 0, none⟩) 0 0) [] rfl (Row.lit_nil w _ _ (Nat.le_refl _)) _ _ _ (xs.map Run.lst) rfl hsrc hn1.out (by simp) ?_; intro r w1 row1 hg1 _)
    go_ret
    exact ⟨_, rfl, by simpa using row1, (below_alloc (Below.refl _ _) _).grown hg1 (by simp) (fun q hq => by simp [Value.ownBlock] at hq; omega)⟩


set_option maxRecDepth 100000 in
set_option maxHeartbeats 4000000 in
theorem insertion_80 (cap0 : Value) (cap1 : Value) (cf : Run → Run → Int) (base g n cap a b : Nat) (P0 M R : List Run) (w : World) (hrow : Row base 53 7 w (.slice (some ⟨g, 0, none⟩) n cap) ((P0 ++ (M ++ R)).map Run.lst)) (hn : n = (P0 ++ (M ++ R)).length) (ha : a = P0.length) (hb0 : b = P0.length + M.length) (hc : cap ≤ 9223372036854775807) (hsm : n ≤ 2147483648)
    (hf : ∀ W (x y : Run), x ∈ M → y ∈ M → w.grownBy W (some g) → Calls Try.prog 80 #[x.val, y.val, cap0, cap1] W fun e w' => e = .returned (.int .i64 (cf x y)) ∧ Below W.heap.size W w') :
    Calls Try.prog 126 #[.slice (some ⟨g, 0, none⟩) n cap, .int .i64 a, .int .i64 b, .func (.func 80) #[] #[cap0, cap1]] w fun e w' => e = .returned (.tuple #[]) ∧ Row base 53 7 w' (.slice (some ⟨g, 0, none⟩) n cap) ((P0 ++ (putAll (ltC cf) M ++ R)).map Run.lst) ∧ w.grownBy w' (some g) := by
  subst hn
  have hcl : (P0 ++ (M ++ R)).length ≤ cap := by
    rcases hrow.2.2 with ⟨h1, _⟩ | ⟨g', cap', cur, h1, _, _, hnc, _⟩
    · simp at h1
    · simp at h1 hnc
      simp; omega
  have HF := Lib.hid hf
  have HN := Lib.hid (show (P0 ++ (M ++ R)).length = a + M.length + R.length by simp; omega)
  obtain ⟨N, hN⟩ : ∃ N, N = (P0 ++ (M ++ R)).length := ⟨_, rfl⟩
  rw [← hN] at hrow hcl HN hsm ⊢
  have hNa : a + M.length ≤ N := by have := HN.out; omega
  have HA := Lib.hid ha
  have hb1 : b ≤ a + M.length := by omega
  have hb2 : a + M.length ≤ b := by omega
  clear hf ha hN hb0
  go_enter Try.func126, Try.ntmps126
  go_wp2
  go_loopw [8, 9] (fun i _ wr => ∃ (k : Nat), 1 ≤ k ∧ (k ≤ M.length ∨ k = 1) ∧ i = .int .i64 ((a : Int) + (k : Int)) ∧ Row base 53 7 wr (.slice (some ⟨g, 0, none⟩) N cap) ((P0 ++ (putAll (ltC cf) (M.take k) ++ (M.drop k ++ R))).map Run.lst) ∧ w.grownBy wr (some g))
    (fun i _ _ => a + M.length - (intOf i).toNat)
  case atStart =>
    refine ⟨1, by omega, .inr rfl, rfl, ?_, World.grownBy.refl _ _⟩
    have e : putAll (ltC cf) (M.take 1) ++ (M.drop 1 ++ R) = M ++ R := by
      cases M with
      | nil => rfl
      | cons x xs => rfl
    rw [e]
    exact hrow
  case round =>
    obtain ⟨k, hk1, hk2, rfl, hry, hgr⟩ := hrel
    by_cases hlt : k < M.length
    · have hdec : decide ((a : Int) + (k : Int) < (b : Int)) = true := by simp; omega
      go_wp2
      obtain ⟨wo, rfl⟩ : ∃ wo : World, wo = wr := ⟨_, rfl⟩
      have hpl : (putAll (ltC cf) (M.take k)).length = k := by rw [putAll_len]; simp; omega
      have HST := Lib.hid (putAll_take (ltC cf) M k hlt)
      have hmem : ∀ y ∈ putAll (ltC cf) (M.take k), y ∈ M := fun y hy => List.mem_of_mem_take ((putAll_perm _ _).mem_iff.1 hy)
      obtain ⟨pre, hpre⟩ : ∃ pre, putAll (ltC cf) (M.take k) = pre := ⟨_, rfl⟩
      rw [hpre] at hpl hry HST hmem
      have hxm : M[k] ∈ M := List.getElem_mem hlt
      obtain ⟨x, hx⟩ : ∃ x, M[k] = x := ⟨_, rfl⟩
      rw [hx] at HST hxm
      have hdr : M.drop k ++ R = x :: (M.drop (k + 1) ++ R) := by rw [List.drop_eq_getElem_cons hlt, hx]; rfl
      rw [hdr, ← midIn_start, hpl] at hry
      have HPL := Lib.hid hpl
      have HMEM := Lib.hid hmem
      have hrl : (M.drop (k + 1) ++ R).length = M.length - (k + 1) + R.length := by simp
      obtain ⟨rest, hrest⟩ : ∃ rest, rest = M.drop (k + 1) ++ R := ⟨_, rfl⟩
      rw [← hrest] at hry hrl
      have HRL := Lib.hid hrl
      have HREST := Lib.hid hrest
      clear hdr hpl hpre hx hrl hrest hmem
      go_loopw [9] (fun jv wi => ∃ (j : Nat), j ≤ k ∧ jv = .int .i64 ((a : Int) + (j : Int)) ∧ Hid (∀ p (h : p < pre.length), j ≤ p → ltC cf x pre[p] = true) ∧ Row base 53 7 wi (.slice (some ⟨g, 0, none⟩) N cap) ((P0 ++ midIn pre rest x j).map Run.lst) ∧ w.grownBy wi (some g))
        (fun jv _ => (intOf jv).toNat - a)
      case atStart => exact ⟨k, Nat.le_refl _, rfl, fun p h hp => absurd h (by rw [HPL.out]; omega), hry, hgr⟩
      case round =>
        obtain ⟨j, hjk, rfl, HB, hrz, hgz⟩ := hrel
        have HJP := Lib.hid (show j ≤ pre.length by rw [HPL.out]; exact hjk)
        have HML := Lib.hid (show (P0 ++ midIn pre rest x j).length = N by have := HN.out; rw [List.length_append, midIn_len HJP.out, HPL.out, HRL.out, ← HA.out]; omega)
        by_cases h0 : 0 < j
        · have hjm : a + j < ((P0 ++ midIn pre rest x j).map Run.lst).length := by rw [List.length_map, HML.out]; omega
          have hjm1 : a + j - 1 < ((P0 ++ midIn pre rest x j).map Run.lst).length := by rw [List.length_map, HML.out]; omega
          have hjp : j - 1 < pre.length := by rw [HPL.out]; omega
          have hc1 := hrz.range hjm
          have e1 : ((P0 ++ midIn pre rest x j).map Run.lst)[a + j] = x.lst := by
            rw [List.getElem_map, List.getElem_append_right (by rw [← HA.out]; omega)]
            have e2 : a + j - P0.length = j := by rw [← HA.out]; omega
            simp only [e2]
            rw [midIn_at HJP.out]
          have hc2 := hrz.range hjm1
          have e3 : ((P0 ++ midIn pre rest x j).map Run.lst)[a + j - 1] = (pre[j - 1]'hjp).lst := by
            rw [List.getElem_map, List.getElem_append_right (by rw [← HA.out]; omega)]
            have e2 : a + j - 1 - P0.length = j - 1 := by rw [← HA.out]; omega
            simp only [e2]
            rw [midIn_before h0 HJP.out]
          have hym : pre[j - 1]'hjp ∈ M := HMEM.out _ (List.getElem_mem hjp)
          rw [e1] at hc1
          rw [e3] at hc2
          obtain ⟨y, hy⟩ : ∃ y, pre[j - 1]'hjp = y := ⟨_, rfl⟩
          rw [hy] at hc2 hym
          have HY := Lib.hid hy
          obtain ⟨r, hr4⟩ : ∃ r, cf x y = r := ⟨_, rfl⟩
          have HR := Lib.hid hr4
          have HC := Lib.hid (fun (s : After wr) => (HF.out s.w' x y hxm hym (grown_trans hgz (grown_of s.hb))).mono fun e w' (h : e = .returned (.int .i64 (cf x y)) ∧ Below s.w'.heap.size s.w' w') => (show e = .returned (.int .i64 r) ∧ Below s.w'.heap.size s.w' w' from ⟨by rw [h.1, hr4], h.2⟩))
          have ej : a + j - 1 = a + (j - 1) := by omega
          have hz1 : (0 : Int) ≤ (a : Int) + (j : Int) := by omega
          have hz2 : (a : Int) + (j : Int) < (N : Int) := by omega
          have hz3 : (0 : Int) ≤ (a : Int) + (j : Int) - 1 := by omega
          have hz4 : (a : Int) + (j : Int) - 1 < (N : Int) := by omega
          have hz5 : decide ((a : Int) < (a : Int) + (j : Int)) = true := by simp; omega
          clear hy hr4 hjm hjm1 e1 e3
          by_cases hl : r < 0
          · have hl' : decide (r < 0) = true := by simpa using hl
            go_wp2
            refine region_after (by kernel_rfl) (by kernel_rfl) ?_
            repeat (any_goals (first | go_big_quiet_step (((go_at_call 80; exact Calls.after (v := .int .i64 r) _ (HC.out _)))) | (refine Run.qloadImpl rfl _ rfl g ((a + j) * 7) (by go_num) x hc1 ?_) | (refine Run.qloadImpl rfl _ rfl g ((a + j - 1) * 7) (by go_num) y hc2 ?_) | quiet_step (((go_at_call 80; exact Calls.after (v := .int .i64 r) _ (HC.out _)))) | (refine wpQuiet_step (fun K hK => ?_); go_simp; split <;> (refine hK _ ?_; clear hK K))))
            all_goals (refine wpQuiet_nil ?_; intro s)
            have hrs := hrz.below s.hb
            have hgs : w.grownBy s.w' (some g) := grown_trans hgz (grown_of s.hb)
            have hx1 := Run.cells (rangeAt_below hc1 s.hb)
            have hx2 := Run.cells (rangeAt_below hc2 s.hb)
            obtain ⟨ws, hws⟩ : ∃ ws, s.w' = ws := ⟨_, rfl⟩
            rw [hws] at hrs hgs hx1 hx2 ⊢
            clear hws s hrz hc1 hc2 HC
            have hrsd := hrs.drew
            have hk1' : a + j < ((P0 ++ midIn pre rest x j).map Run.lst).length := by rw [List.length_map, HML.out]; omega
            have hk2' : a + (j - 1) < (((P0 ++ midIn pre rest x j).map Run.lst).set (a + j) y.lst).length := by rw [List.length_set, List.length_map, HML.out]; omega
            have HK1 := Lib.hid hk1'
            have HK2 := Lib.hid hk2'
            clear hk1' hk2'
            rw [ej] at hx2
            go_wp2
            have hwj : IntKind.i64.wrap ((a : Int) + (j : Int) - 1) = (a : Int) + (j : Int) - 1 := by rw [IntKind.wrap_i64]; omega
            have htj : ((a : Int) + (j : Int) - 1).toNat = a + (j - 1) := by omega
            have hz6 : (1 : Int) ≤ (a : Int) + (j : Int) := by omega
            have hz7 : (a : Int) + (j : Int) ≤ (N : Int) := by omega
            have hz8 : (a : Int) + (j : Int) < (N : Int) + 1 := by omega
            have htj2 : ((a : Int) + (j : Int)).toNat = a + j := by omega
            have hfz := fun o => hrs.frozen o
            go_big_region
            obtain ⟨r1, g1⟩ := hrs.put (k := a + j) HK1.out y.lst rfl
            obtain ⟨r2, g2⟩ := r1.put (k := a + (j - 1)) HK2.out x.lst rfl
            have r3 := r2.drew
            have g3 := grown_trans hgs (grown_trans g1 (grown_trans g2 (grown_of (Below.drew (Below.refl _ _)))))
            rw [← HY.out, midIn_swap_map Run.lst P0 pre rest x h0 HJP.out HA.out] at r3
            rw [HY.out] at r3
            clear r1 g1 r2 g2 hrs hgs hx1 hx2 hrsd hfz hz1 hz2 hz3 hz4 hz5 hz6 hz7 hz8 hwj htj htj2
            go_wp2
            go_roundw
            case rel =>
              refine ⟨j - 1, by omega, by congr 1; omega, fun p hp hjp2 => ?_, r3, g3⟩
              by_cases e : p = j - 1
              · subst e; rw [HY.out]; unfold ltC; rw [HR.out]; exact hl'
              · exact HB.out p hp (by omega)
            case measure => simp [intOf]; omega
          · have hl' : decide (r < 0) = false := by simpa using hl
            go_wp2
            refine region_after (by kernel_rfl) (by kernel_rfl) ?_
            repeat (any_goals (first | go_big_quiet_step (((go_at_call 80; exact Calls.after (v := .int .i64 r) _ (HC.out _)))) | (refine Run.qloadImpl rfl _ rfl g ((a + j) * 7) (by go_num) x hc1 ?_) | (refine Run.qloadImpl rfl _ rfl g ((a + j - 1) * 7) (by go_num) y hc2 ?_) | quiet_step (((go_at_call 80; exact Calls.after (v := .int .i64 r) _ (HC.out _)))) | (refine wpQuiet_step (fun K hK => ?_); go_simp; split <;> (refine hK _ ?_; clear hK K))))
            all_goals (refine wpQuiet_nil ?_; intro s)
            have hrs := hrz.below s.hb
            have hgs : w.grownBy s.w' (some g) := grown_trans hgz (grown_of s.hb)
            go_wp2
            go_roundw
            case rel =>
              refine ⟨k + 1, by omega, .inl (by omega), by go_num, ?_, hgs⟩
              rw [HST.out]
              rw [midIn_end (ltC cf) HJP.out HB.out (.inr ⟨hjp, by rw [HY.out]; unfold ltC; rw [HR.out]; exact hl'⟩), HREST.out] at hrs
              exact hrs
            case measure => simp [intOf]; omega
        · obtain rfl : j = 0 := by omega
          have hz : decide ((a : Int) < (a : Int)) = false := by simp
          clear h0
          go_wp2
          refine region_after (by kernel_rfl) (by kernel_rfl) ?_
          repeat (any_goals (first | go_big_quiet_step (fail)  | quiet_step (fail) | (refine wpQuiet_step (fun K hK => ?_); go_simp; split <;> (refine hK _ ?_; clear hK K))))
          all_goals (refine wpQuiet_nil ?_; intro s)
          have hrs := hrz.below s.hb
          have hgs : w.grownBy s.w' (some g) := grown_trans hgz (grown_of s.hb)
          go_wp2
          go_roundw
          case rel =>
            refine ⟨k + 1, by omega, .inl (by omega), by go_num, ?_, hgs⟩
            rw [HST.out]
            rw [midIn_end (ltC cf) HJP.out HB.out (.inl rfl), HREST.out] at hrs
            exact hrs
          case measure => simp [intOf]; omega
    · go_wp2
      go_end0
      refine ⟨rfl, ?_, hgr⟩
      have hk3 : M.length ≤ k := by omega
      rw [List.take_of_length_le hk3, List.drop_of_length_le hk3, List.nil_append] at hry
      exact hry


set_option maxHeartbeats 2000000 in
theorem stable_80 (cap0 : Value) (cap1 : Value) (cf : Run → Run → Int) (base g n cap : Nat) (M : List Run) (w : World) (hrow : Row base 53 7 w (.slice (some ⟨g, 0, none⟩) n cap) (M.map Run.lst)) (hn : n = M.length) (h20 : n ≤ 20) (hc : cap ≤ 9223372036854775807)
    (hf : ∀ W (x y : Run), x ∈ M → y ∈ M → w.grownBy W (some g) → Calls Try.prog 80 #[x.val, y.val, cap0, cap1] W fun e w' => e = .returned (.int .i64 (cf x y)) ∧ Below W.heap.size W w') :
    Calls Try.prog 111 #[.slice (some ⟨g, 0, none⟩) n cap, .int .i64 n, .func (.func 80) #[] #[cap0, cap1]] w fun e w' => e = .returned (.tuple #[]) ∧ Row base 53 7 w' (.slice (some ⟨g, 0, none⟩) n cap) ((putAll (ltC cf) M).map Run.lst) ∧ w.grownBy w' (some g) := by
  have HN := Lib.hid hn
  have c1 := insertion_80 cap0 cap1 cf base g n cap 0 n [] M [] w (by simpa using hrow) (by simpa using hn) rfl (by simpa using hn) hc (by omega) hf
  simp only [List.nil_append, List.append_nil] at c1
  by_cases hlt : n < 20
  · have hb : decide ((20 : Int) ≤ (n : Int)) = false := by simp; omega
    have hb2 : decide ((20 : Int) < (n : Int)) = false := by simp; omega
    clear hn hf
    go_enter Try.func111, Try.ntmps111
    go_wp2_with fail
    refine wp_loop_rounds 1 ?_
    rw [rounds_succ]
    go_wp2_with fail
    refine c1.mono ?_
    rintro e w1 ⟨rfl, row1, hg1⟩
    go_wp2_with fail
    refine wp_loop_rounds 1 ?_
    rw [rounds_succ]
    go_wp2
    go_end0
    exact ⟨rfl, row1, hg1⟩
  · obtain rfl : n = 20 := by omega
    have hpl : 20 = (putAll (ltC cf) M).length := by rw [putAll_len]; exact hn
    have HPL := Lib.hid hpl
    clear hn hf hpl
    go_enter Try.func111, Try.ntmps111
    go_wp2_with fail
    refine wp_loop_rounds 2 ?_
    rw [rounds_succ]
    go_wp2_with fail
    refine c1.mono ?_
    rintro e w1 ⟨rfl, row1, hg1⟩
    go_wp2_with fail
    rw [rounds_succ]
    go_wp2_with fail
    refine (insertion_80 cap0 cap1 cf base g 20 cap 20 20 (putAll (ltC cf) M) [] [] w1 (by simpa using row1) (by simpa using HPL.out) HPL.out (by simpa using HPL.out) hc (by omega) (fun W x y hx => absurd hx (by simp))).mono ?_
    rintro e w2 ⟨rfl, row2, hg2⟩
    go_wp2_with fail
    refine wp_loop_rounds 1 ?_
    rw [rounds_succ]
    go_wp2
    go_end0
    exact ⟨rfl, by simpa [putAll] using row2, grown_trans hg1 hg2⟩

theorem sortStable_80 (cap0 : Value) (cap1 : Value) (cf : Run → Run → Int) (base : Nat) (v : Value) (M : List Run) (w : World) (hrow : Row base 53 7 w v (M.map Run.lst)) (h20 : M.length ≤ 20)
    (hf : ∀ W (x y : Run), x ∈ M → y ∈ M → w.grownBy W v.ownBlock → Calls Try.prog 80 #[x.val, y.val, cap0, cap1] W fun e w' => e = .returned (.int .i64 (cf x y)) ∧ Below W.heap.size W w') :
    Calls Try.prog 79 #[v, .func (.func 80) #[] #[cap0, cap1]] w fun e w' => e = .returned (.tuple #[]) ∧ Row base 53 7 w' v ((putAll (ltC cf) M).map Run.lst) ∧ w.grownBy w' v.ownBlock := by
  by_cases h0 : 0 < M.length
  · obtain ⟨g, cap, rfl, hbg, hg, hcap⟩ := hrow.form (by simpa using h0)
    have hcm : cap ≤ 9223372036854775807 := by
      obtain ⟨_, _, h1, _, h3⟩ := hrow.parts
      simp only [Value.slice.injEq] at h1
      omega
    have c := stable_80 cap0 cap1 cf base g _ cap M w hrow (by simp) (by simpa using h20) hcm hf
    simp only [List.length_map] at c hcap ⊢
    clear hrow hf
    go_enter Try.func79, Try.ntmps79
    go_wp2_with fail
    refine c.mono ?_
    rintro e w1 ⟨rfl, row1, hg1⟩
    go_wp2
    go_end0
    exact ⟨rfl, row1, hg1⟩
  · obtain rfl := List.eq_nil_of_length_eq_zero (show M.length = 0 by omega)
    obtain ⟨A, c, rfl, _, _⟩ := hrow.parts
    have hb : decide ((20 : Int) ≤ (0 : Int)) = false := by decide
    clear hf
    go_enter Try.func79, Try.ntmps79
    go_wp2_with fail
    refine (show Calls Try.prog 111 #[.slice A 0 c, .int .i64 0, .func (.func 80) #[] #[cap0, cap1]] w fun e w' => e = .returned (.tuple #[]) ∧ w.grownBy w' none from ?_).mono ?_
    · go_enter Try.func111, Try.ntmps111
      go_wp2_with fail
      refine wp_loop_rounds 1 ?_
      rw [rounds_succ]
      go_wp2_with fail
      refine (show Calls Try.prog 126 #[.slice A 0 c, .int .i64 0, .int .i64 0, .func (.func 80) #[] #[cap0, cap1]] w fun e w' => e = .returned (.tuple #[]) ∧ w.grownBy w' none from ?_).mono ?_
      · go_enter Try.func126, Try.ntmps126
        go_wp2_with fail
        refine wp_loop_rounds 1 ?_
        rw [rounds_succ]
        go_wp2
        go_end0
        exact ⟨rfl, World.grownBy.refl _ _⟩
      · rintro e w1 ⟨rfl, hg1⟩
        go_wp2_with fail
        refine wp_loop_rounds 1 ?_
        rw [rounds_succ]
        go_wp2
        go_end0
        exact ⟨rfl, hg1⟩
    · rintro e w1 ⟨rfl, hg1⟩
      go_wp2
      go_end0
      exact ⟨rfl, by simpa [putAll] using hrow.kept hg1 (by cases A <;> simp [Value.ownBlock]), ⟨hg1.os, hg1.tape, hg1.output, hg1.size, fun k hk _ => hg1.block k hk (by simp)⟩⟩

end Go.Proofs.Ytojpklpfnmjikaa
